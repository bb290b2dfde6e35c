/- Collating: signs of codes. -/
import Derived.Test.YtobiefdkpiognaaClB
set_option linter.unusedSectionVars false
set_option linter.unusedVariables false
set_option linter.unusedSimpArgs false
namespace Go.Proofs
open Go.RowKit Go.Kin Go.Kin.Cl
namespace R41
/-- the sign of a code, taken apart -/
def unp (c : Int) : Sg := ⟨0, c / 128 / 256 / 4 / 16 / 4 / 16, 0, 0, c / 128 / 256 / 4 / 16 / 4 % 16, c / 128 / 256 / 4 / 16 % 4, c / 128 / 256 / 4 % 16, c / 128 / 256 % 4, c / 128 % 256, c % 128, 0, 0, 0, 0⟩
/-- what Sign answers -/
def sgnA (c : Int) : Sg × Int := if okS (unp c) = true then (unp c, 0) else (sg0, 410)
def vS (p : Sg × Int) : Value := .tuple ⟨[.agg ⟨sgE p.1⟩, .int .i64 p.2]⟩
theorem sgnA_t {c : Int} (h : okS (unp c) = true) : sgnA c = (unp c, 0) := if_pos h
theorem sgnA_f {c : Int} (h : ¬ okS (unp c) = true) : sgnA c = (sg0, 410) := if_neg h
theorem unp_range {c : Int} (h : okS (unp c) = true) : 0 ≤ c ∧ c < 8589934592 := by
  have := (okS_iff.1 h).1
  simp only [unp] at this
  omega

theorem last_calls (b : Nat) (r p : Int) (k : Nat) (w : World) (hp : (2 : Int) ^ k = p) (hk : k ≤ 8) (hr : -9223372036854775808 ≤ r ∧ r ≤ 9223372036854775807) (h : w.heap[b]? = some (.cells ⟨[.int .i64 r]⟩ 3 (0, 0))) :
    Calls Try.prog 45 ⟨[.int .i64 k, .pointer (some ⟨b, 0, none⟩)]⟩ w fun e w' => e = .returned (.int .i64 (r % p)) ∧ Same (fun k => k ≠ b) w w' ∧ w'.heap[b]? = some (.cells ⟨[.int .i64 (r / p)]⟩ 3 (0, 0)) := by
  have hsat : SatW w (fun k => k < w.heap.size ∧ k ≠ b) noJ [(b, .cells ⟨[.int .i64 r]⟩ 3 (0, 0))] w :=
    ⟨Same.refl _ _, fun _ h => h.1, by simp, fun p hp => by rw [List.mem_singleton.1 hp]; exact ⟨fun h => h.2 rfl, h⟩, closed_noJ, trivial⟩
  obtain ⟨p1, p2⟩ := pow_small hk
  rw [hp] at p1 p2
  have s1 : IntKind.i64.wrap (1 * 2 ^ k) = p := by rw [hp, Int.one_mul, wrap_i64 (by omega) (by omega)]
  have s2 : bits .and .i64 r (p - 1) = r % p := by rw [← hp]; exact and_low r k (by omega)
  have s3 : r / 2 ^ k = r / p := by rw [hp]
  refine fun_enter Try.func45 rfl Try.ntmps45 rfl rfl hsat ?_
  repeat (first | refine l_val rfl rfl (by first | exact pureEval_ok rfl | exact v_load rfl (by repeat (first | exact List.Mem.head _ | apply List.Mem.tail)) rfl (by rfl) ) ?_ | refine l_nil ?_ | refine c_region ?_ | refine c_seq ?_ | refine x_then ?_ | refine r_store rfl rfl rfl rfl rfl rfl rfl (by repeat (first | exact Upd.head | apply Upd.tail)) (by rfl) ?_ | refine c_ret ?_ | refine c_reads rfl (by decide +kernel) ?_ | refine q_val rfl rfl (by first | exact v_sub rfl rfl (by omega) (by omega) | exact pureEval_ok rfl | exact v_load rfl (by repeat (first | exact List.Mem.head _ | apply List.Mem.tail)) rfl (by rfl) ) ?_ | refine q_nil ?_ | (refine q_val rfl rfl (v_shlA rfl rfl (by omega) (by assumption)) ?_) | (refine q_val rfl rfl (v_andA rfl rfl (by assumption)) ?_) | (refine l_val rfl rfl (v_shrA rfl rfl (by omega) (by assumption)) ?_) )
  refine x_ret rfl rfl (by repeat (first | exact Res.nil | (apply Res.tmp; rfl) | (apply Res.cell; rfl; exact (by repeat (first | exact List.Mem.head _ | apply List.Mem.tail)); rfl; rfl))) rfl (fun W hW => ⟨rfl, hW.same.monoLt fun b hb hne => ⟨hb, hne⟩, (hW.own _ (by repeat (first | exact List.Mem.head _ | apply List.Mem.tail))).2⟩)

set_option maxRecDepth 100000 in
set_option maxHeartbeats 4000000 in
theorem Sign_calls (c : Int) (w : World) (hc : -9223372036854775808 ≤ c ∧ c ≤ 9223372036854775807) : Calls Try.prog 20 ⟨[.int .i64 c]⟩ w fun e w' => e = .returned (vS (sgnA c)) ∧ Below w.heap.size w w' := by
  obtain ⟨hc1, hc2⟩ := hc
  obtain ⟨r1, hr1⟩ : ∃ r, c / 128 = r := ⟨_, rfl⟩
  obtain ⟨r2, hr2⟩ : ∃ r, r1 / 256 = r := ⟨_, rfl⟩
  obtain ⟨r3, hr3⟩ : ∃ r, r2 / 4 = r := ⟨_, rfl⟩
  obtain ⟨r4, hr4⟩ : ∃ r, r3 / 16 = r := ⟨_, rfl⟩
  obtain ⟨r5, hr5⟩ : ∃ r, r4 / 4 = r := ⟨_, rfl⟩
  obtain ⟨r6, hr6⟩ : ∃ r, r5 / 16 = r := ⟨_, rfl⟩
  have hu : unp c = ⟨0, r6, 0, 0, r5 % 16, r4 % 4, r3 % 16, r2 % 4, r1 % 256, c % 128, 0, 0, 0, 0⟩ := by unfold unp; rw [hr1, hr2, hr3, hr4, hr5, hr6]
  have b1 : -9223372036854775808 ≤ r1 ∧ r1 ≤ 9223372036854775807 := by omega
  have b2 : -9223372036854775808 ≤ r2 ∧ r2 ≤ 9223372036854775807 := by omega
  have b3 : -9223372036854775808 ≤ r3 ∧ r3 ≤ 9223372036854775807 := by omega
  have b4 : -9223372036854775808 ≤ r4 ∧ r4 ≤ 9223372036854775807 := by omega
  have b5 : -9223372036854775808 ≤ r5 ∧ r5 ≤ 9223372036854775807 := by omega
  refine fun_enter Try.func20 rfl Try.ntmps20 rfl rfl (satW_nil w) ?_
  repeat (first | refine l_val rfl rfl (by first | exact pureEval_ok rfl ) ?_ | refine l_nil ?_ | refine c_region ?_ | refine c_seq ?_ | refine x_then ?_ | refine r_alloc rfl rfl rfl (by first | exact aggL ) (fun _ => ?_) | refine r_store rfl rfl rfl rfl rfl rfl rfl (by repeat (first | exact Upd.head | apply Upd.tail)) (by rfl) ?_ )
  rename_i x2 x4
  refine r_callvu (o := .cells ⟨[.int .i64 c]⟩ 3 (0, 0)) (o' := .cells ⟨[.int .i64 r1]⟩ 3 (0, 0)) rfl rfl rfl rfl rfl (by repeat (first | exact Upd.head | apply Upd.tail)) (fun W hW h => hr1 ▸ last_calls x4 c 128 7 W (by decide) (by decide) ⟨hc1, hc2⟩ h) (by repeat (first | exact List.Mem.head _ | apply List.Mem.tail)) ?_
  repeat (first | refine l_val rfl rfl (by first | exact pureEval_ok rfl ) ?_ | refine l_nil ?_ | refine c_region ?_ | refine c_seq ?_ | refine x_then ?_ | refine r_store rfl rfl rfl rfl rfl rfl rfl (by repeat (first | exact Upd.head | apply Upd.tail)) (by rfl) ?_ )
  refine r_callvu (o := .cells ⟨[.int .i64 r1]⟩ 3 (0, 0)) (o' := .cells ⟨[.int .i64 r2]⟩ 3 (0, 0)) rfl rfl rfl rfl rfl (by repeat (first | exact Upd.head | apply Upd.tail)) (fun W hW h => hr2 ▸ last_calls x4 r1 256 8 W (by decide) (by decide) b1 h) (by repeat (first | exact List.Mem.head _ | apply List.Mem.tail)) ?_
  repeat (first | refine l_val rfl rfl (by first | exact pureEval_ok rfl ) ?_ | refine l_nil ?_ | refine c_region ?_ | refine c_seq ?_ | refine x_then ?_ | refine r_store rfl rfl rfl rfl rfl rfl rfl (by repeat (first | exact Upd.head | apply Upd.tail)) (by rfl) ?_ )
  refine r_callvu (o := .cells ⟨[.int .i64 r2]⟩ 3 (0, 0)) (o' := .cells ⟨[.int .i64 r3]⟩ 3 (0, 0)) rfl rfl rfl rfl rfl (by repeat (first | exact Upd.head | apply Upd.tail)) (fun W hW h => hr3 ▸ last_calls x4 r2 4 2 W (by decide) (by decide) b2 h) (by repeat (first | exact List.Mem.head _ | apply List.Mem.tail)) ?_
  repeat (first | refine l_val rfl rfl (by first | exact pureEval_ok rfl ) ?_ | refine l_nil ?_ | refine c_region ?_ | refine c_seq ?_ | refine x_then ?_ | refine r_store rfl rfl rfl rfl rfl rfl rfl (by repeat (first | exact Upd.head | apply Upd.tail)) (by rfl) ?_ )
  refine r_callvu (o := .cells ⟨[.int .i64 r3]⟩ 3 (0, 0)) (o' := .cells ⟨[.int .i64 r4]⟩ 3 (0, 0)) rfl rfl rfl rfl rfl (by repeat (first | exact Upd.head | apply Upd.tail)) (fun W hW h => hr4 ▸ last_calls x4 r3 16 4 W (by decide) (by decide) b3 h) (by repeat (first | exact List.Mem.head _ | apply List.Mem.tail)) ?_
  repeat (first | refine l_val rfl rfl (by first | exact pureEval_ok rfl ) ?_ | refine l_nil ?_ | refine c_region ?_ | refine c_seq ?_ | refine x_then ?_ | refine r_store rfl rfl rfl rfl rfl rfl rfl (by repeat (first | exact Upd.head | apply Upd.tail)) (by rfl) ?_ )
  refine r_callvu (o := .cells ⟨[.int .i64 r4]⟩ 3 (0, 0)) (o' := .cells ⟨[.int .i64 r5]⟩ 3 (0, 0)) rfl rfl rfl rfl rfl (by repeat (first | exact Upd.head | apply Upd.tail)) (fun W hW h => hr5 ▸ last_calls x4 r4 4 2 W (by decide) (by decide) b4 h) (by repeat (first | exact List.Mem.head _ | apply List.Mem.tail)) ?_
  repeat (first | refine l_val rfl rfl (by first | exact pureEval_ok rfl ) ?_ | refine l_nil ?_ | refine c_region ?_ | refine c_seq ?_ | refine x_then ?_ | refine r_store rfl rfl rfl rfl rfl rfl rfl (by repeat (first | exact Upd.head | apply Upd.tail)) (by rfl) ?_ )
  refine r_callvu (o := .cells ⟨[.int .i64 r5]⟩ 3 (0, 0)) (o' := .cells ⟨[.int .i64 r6]⟩ 3 (0, 0)) rfl rfl rfl rfl rfl (by repeat (first | exact Upd.head | apply Upd.tail)) (fun W hW h => hr6 ▸ last_calls x4 r5 16 4 W (by decide) (by decide) b5 h) (by repeat (first | exact List.Mem.head _ | apply List.Mem.tail)) ?_
  repeat (first | refine l_val rfl rfl (by first | exact pureEval_ok rfl | exact v_load rfl (by repeat (first | exact List.Mem.head _ | apply List.Mem.tail)) rfl (by rfl) ) ?_ | refine l_nil ?_ | refine c_region ?_ | refine c_seq ?_ | refine x_then ?_ | refine r_store rfl rfl rfl rfl rfl rfl rfl (by repeat (first | exact Upd.head | apply Upd.tail)) (by rfl) ?_ )
  refine r_call rfl rfl rfl (fun W hW => Code_calls ⟨0, r6, 0, 0, r5 % 16, r4 % 4, r3 % 16, r2 % 4, r1 % 256, c % 128, 0, 0, 0, 0⟩ W) ?_
  by_cases h : okS (unp c) = true
  · rw [codA_t (by rw [← hu]; exact h)]
    have hv := sgnA_t h
    rw [hu] at hv
    repeat (first | refine l_val rfl rfl (by first | exact pureEval_ok rfl | exact v_load rfl (by repeat (first | exact List.Mem.head _ | apply List.Mem.tail)) rfl (by rfl) ) ?_ | refine l_nil ?_ | refine c_region ?_ | refine c_seq ?_ | refine x_then ?_ | refine r_store rfl rfl rfl rfl rfl rfl rfl (by repeat (first | exact Upd.head | apply Upd.tail)) (by rfl) ?_ | refine c_false rfl ?_ | refine c_skip ?_ | refine c_ret ?_ )
    exact x_ret rfl rfl (by repeat (first | exact Res.nil | (apply Res.tmp; rfl) | (apply Res.cell; rfl; exact (by repeat (first | exact List.Mem.head _ | apply List.Mem.tail)); rfl; rfl))) rfl (fun W hW => ⟨by rw [hv]; rfl, hW.below⟩)
  · rw [codA_f (by rw [← hu]; exact h)]
    have hv := sgnA_f h
    repeat (first | refine l_val rfl rfl (by first | exact pureEval_ok rfl | exact v_build rfl rfl (by rfl) ) ?_ | refine l_nil ?_ | refine c_region ?_ | refine c_seq ?_ | refine x_then ?_ | refine r_store rfl rfl rfl rfl rfl rfl rfl (by repeat (first | exact Upd.head | apply Upd.tail)) (by rfl) ?_ | refine c_true rfl ?_ | refine c_ret ?_ | refine x_then_ret ?_ )
    exact x_ret rfl rfl (by repeat (first | exact Res.nil | (apply Res.tmp; rfl) | (apply Res.cell; rfl; exact (by repeat (first | exact List.Mem.head _ | apply List.Mem.tail)); rfl; rfl))) rfl (fun W hW => ⟨by rw [hv]; rfl, hW.below⟩)

theorem unp_flat (c : Int) : unp c = ⟨0, c / 134217728, 0, 0, c / 8388608 % 16, c / 2097152 % 4, c / 131072 % 16, c / 32768 % 4, c / 128 % 256, c % 128, 0, 0, 0, 0⟩ := by
  unfold unp
  have e1 : c / 128 / 256 = c / 32768 := by omega
  have e2 : c / 32768 / 4 = c / 131072 := by omega
  have e3 : c / 131072 / 16 = c / 2097152 := by omega
  have e4 : c / 2097152 / 4 = c / 8388608 := by omega
  have e5 : c / 8388608 / 16 = c / 134217728 := by omega
  rw [e1, e2, e3, e4, e5]
set_option maxRecDepth 100000 in
set_option maxHeartbeats 4000000 in
theorem rSign_calls (c : Int) (w : World) : Calls Try.prog 21 ⟨[.int .i64 c]⟩ w fun e w' => e = .returned (vS (sgnA c)) ∧ Below w.heap.size w w' := by
  refine fun_enter Try.func21 rfl Try.ntmps21 rfl rfl (satW_nil w) ?_
  by_cases h1 : 0 ≤ c
  rotate_left
  · have hv := sgnA_f (c := c) (fun h => h1 (unp_range h).1)
    repeat (first | refine l_val rfl rfl (by first | exact pureEval_ok rfl | exact v_build rfl rfl (by rfl) ) ?_ | refine l_nil ?_ | refine c_region ?_ | refine c_seq ?_ | refine x_then ?_ | refine l_skip rfl rfl ?_ | refine r_alloc rfl rfl rfl (by first | exact aggL ) (fun _ => ?_) | refine r_store rfl rfl rfl rfl rfl rfl rfl (by repeat (first | exact Upd.head | apply Upd.tail)) (by rfl) ?_ | refine c_true rfl ?_ | refine c_ret ?_ | refine x_then_ret ?_ | refine l_dec_t rfl rfl rfl rfl rfl (by first | omega ) ?_ )
    exact x_ret rfl rfl (by repeat (first | exact Res.nil | (apply Res.tmp; rfl) | (apply Res.cell; rfl; exact (by repeat (first | exact List.Mem.head _ | apply List.Mem.tail)); rfl; rfl))) rfl (fun W hW => ⟨by rw [hv]; rfl, hW.below⟩)
  by_cases h2 : c < 8589934592
  rotate_left
  · have hv := sgnA_f (c := c) (fun h => h2 (unp_range h).2)
    repeat (first | refine l_val rfl rfl (by first | exact pureEval_ok rfl | exact v_build rfl rfl (by rfl) ) ?_ | refine l_nil ?_ | refine c_region ?_ | refine c_seq ?_ | refine x_then ?_ | refine r_alloc rfl rfl rfl (by first | exact aggL ) (fun _ => ?_) | refine r_store rfl rfl rfl rfl rfl rfl rfl (by repeat (first | exact Upd.head | apply Upd.tail)) (by rfl) ?_ | refine c_dec_t rfl (by first | omega ) ?_ | refine c_ret ?_ | refine x_then_ret ?_ | refine l_dec_f rfl rfl rfl rfl rfl (by first | omega ) ?_ )
    exact x_ret rfl rfl (by repeat (first | exact Res.nil | (apply Res.tmp; rfl) | (apply Res.cell; rfl; exact (by repeat (first | exact List.Mem.head _ | apply List.Mem.tail)); rfl; rfl))) rfl (fun W hW => ⟨by rw [hv]; rfl, hW.below⟩)
  have hu := unp_flat c
  repeat (first | refine l_val rfl rfl (by first | exact pureEval_ok rfl | exact v_load rfl (by repeat (first | exact List.Mem.head _ | apply List.Mem.tail)) rfl (by rfl) | exact v_build rfl rfl (by rfl) | exact v_rem rfl rfl (by omega) (by omega) | exact v_quo rfl rfl (by omega) (by omega) (by omega) ) ?_ | refine l_nil ?_ | refine c_region ?_ | refine c_seq ?_ | refine x_then ?_ | refine r_alloc rfl rfl rfl (by first | exact aggL ) (fun _ => ?_) | refine r_store rfl rfl rfl rfl rfl rfl rfl (by repeat (first | exact Upd.head | apply Upd.tail)) (by rfl) ?_ | refine c_dec_f rfl (by first | omega | exact fun h => h rfl ) ?_ | refine c_skip ?_ | refine l_dec_f rfl rfl rfl rfl rfl (by first | omega | exact fun h => h rfl ) ?_ )
  refine r_call rfl rfl rfl (fun W hW => rCode_calls ⟨0, c / 134217728, 0, 0, c / 8388608 % 16, c / 2097152 % 4, c / 131072 % 16, c / 32768 % 4, c / 128 % 256, c % 128, 0, 0, 0, 0⟩ W) ?_
  by_cases h : okS (unp c) = true
  · rw [codA_t (by rw [← hu]; exact h)]
    have hv := sgnA_t h
    rw [hu] at hv
    repeat (first | refine l_val rfl rfl (by first | exact pureEval_ok rfl | exact v_load rfl (by repeat (first | exact List.Mem.head _ | apply List.Mem.tail)) rfl (by rfl) ) ?_ | refine l_nil ?_ | refine c_region ?_ | refine c_seq ?_ | refine x_then ?_ | refine r_store rfl rfl rfl rfl rfl rfl rfl (by repeat (first | exact Upd.head | apply Upd.tail)) (by rfl) ?_ | refine c_false rfl ?_ | refine c_skip ?_ | refine c_ret ?_ )
    exact x_ret rfl rfl (by repeat (first | exact Res.nil | (apply Res.tmp; rfl) | (apply Res.cell; rfl; exact (by repeat (first | exact List.Mem.head _ | apply List.Mem.tail)); rfl; rfl))) rfl (fun W hW => ⟨by rw [hv]; rfl, hW.below⟩)
  · rw [codA_f (by rw [← hu]; exact h)]
    have hv := sgnA_f h
    repeat (first | refine l_val rfl rfl (by first | exact pureEval_ok rfl | exact v_build rfl rfl (by rfl) ) ?_ | refine l_nil ?_ | refine c_region ?_ | refine c_seq ?_ | refine x_then ?_ | refine r_store rfl rfl rfl rfl rfl rfl rfl (by repeat (first | exact Upd.head | apply Upd.tail)) (by rfl) ?_ | refine c_true rfl ?_ | refine c_ret ?_ | refine x_then_ret ?_ )
    exact x_ret rfl rfl (by repeat (first | exact Res.nil | (apply Res.tmp; rfl) | (apply Res.cell; rfl; exact (by repeat (first | exact List.Mem.head _ | apply List.Mem.tail)); rfl; rfl))) rfl (fun W hW => ⟨by rw [hv]; rfl, hW.below⟩)

/-! ## Codes -/
def isC (c : Int) : Bool := okS (unp c) || decide (c = 8589934592)
theorem isC_t {c : Int} (h : okS (unp c) = true) : isC c = true := by unfold isC; rw [h]; rfl
theorem isC_f {c : Int} (h : ¬ okS (unp c) = true) : isC c = decide (c = 8589934592) := by unfold isC; rw [show okS (unp c) = false by simpa using h]; rfl
theorem IsCode_calls (c : Int) (w : World) : Calls Try.prog 54 ⟨[.int .i64 c]⟩ w fun e w' => e = .returned (.bool (isC c)) ∧ Below w.heap.size w w' := by
  refine fun_enter Try.func54 rfl Try.ntmps54 rfl rfl (satW_nil w) ?_
  repeat (first | refine l_val rfl rfl (by first | exact pureEval_ok rfl ) ?_ | refine l_nil ?_ | refine c_region ?_ | refine c_seq ?_ | refine x_then ?_ )
  refine r_call rfl rfl rfl (fun W hW => rSign_calls c W) ?_
  by_cases h : okS (unp c) = true
  · rw [sgnA_t h]
    repeat (first | refine l_val rfl rfl (by first | exact pureEval_ok rfl ) ?_ | refine l_nil ?_ | refine c_region ?_ | refine c_seq ?_ | refine x_then ?_ | refine l_skip rfl rfl ?_ | refine r_alloc rfl rfl rfl (by first | exact aggL ) (fun _ => ?_) | refine r_store rfl rfl rfl rfl rfl rfl rfl (by repeat (first | exact Upd.head | apply Upd.tail)) (by rfl) ?_ | refine c_ret ?_ )
    exact x_ret rfl rfl (by repeat (first | exact Res.nil | (apply Res.tmp; rfl) | (apply Res.cell; rfl; exact (by repeat (first | exact List.Mem.head _ | apply List.Mem.tail)); rfl; rfl))) rfl (fun W hW => ⟨by rw [isC_t h], hW.below⟩)
  · rw [sgnA_f h]
    repeat (first | refine l_val rfl rfl (by first | exact pureEval_ok rfl ) ?_ | refine l_nil ?_ | refine c_region ?_ | refine c_seq ?_ | refine x_then ?_ | refine r_alloc rfl rfl rfl (by first | exact aggL ) (fun _ => ?_) | refine r_store rfl rfl rfl rfl rfl rfl rfl (by repeat (first | exact Upd.head | apply Upd.tail)) (by rfl) ?_ | refine c_ret ?_ )
    exact x_ret rfl rfl (by repeat (first | exact Res.nil | (apply Res.tmp; rfl) | (apply Res.cell; rfl; exact (by repeat (first | exact List.Mem.head _ | apply List.Mem.tail)); rfl; rfl))) rfl (fun W hW => ⟨by rw [isC_f h], hW.below⟩)
theorem all_calls (A : Option Addr) (cap : Nat) (l : List Int) (w : World) (hl : l.length ≤ 100000) (hA : Kin.At w A 1 (l.map inE)) : Calls Try.prog 48 ⟨[.slice A l.length cap]⟩ w fun e w' => e = .returned (.bool (l.all isC)) ∧ Below w.heap.size w w' := by
  refine fun_enter Try.func48 rfl Try.ntmps48 rfl rfl (satW_nil w) ?_
  repeat (first | refine l_val rfl rfl (by first | exact pureEval_ok rfl ) ?_ | refine l_nil ?_ | refine c_region ?_ | refine c_seq ?_ | refine x_then ?_ | refine c_block ?_ )
  refine c_loop (ι := Nat) (fun k => k ≤ l.length ∧ (Unit → (l.take k).all isC = true)) (fun k => [(0, .slice A l.length cap), (2, .bool false), (3, .int .i64 k)]) (fun _ => []) (fun k => l.length - k) 0 ⟨by omega, fun _ => rfl⟩ (by repeat (first | exact EnvSub.nil | refine EnvSub.cons rfl (by first | rfl | (congr 1; done) | (exact congrArg (Value.int _) (by omega)) | (simp; done)) ?_)) (by repeat (first | exact MSub.nil | refine MSub.keep (by first | rfl | assumption) ?_ | refine MSub.drop ?_ | exact MSub.refl _)) ?_
  rintro k ⟨hk, hf⟩
  by_cases hlt : k < l.length
  · obtain ⟨x, hx⟩ : ∃ x, l[k]? = some x := ⟨_, List.getElem?_eq_getElem hlt⟩
    obtain ⟨b1, o1, rfl, e1⟩ := ext_at hA hx
    have g1 := ext_of e1
    rw [Nat.mul_one] at g1
    have ht : l.take (k + 1) = l.take k ++ [x] := by rw [List.take_add_one, hx]; rfl
    repeat (first | refine l_val rfl rfl (by first | exact pureEval_ok rfl | exact v_load_ext0 rfl (by assumption) rfl (by rfl) | exact v_index rfl rfl rfl rfl (by omega) (by omega) (by with_reducible first | exact idx2 _ _  ) ) ?_ | refine l_nil ?_ | refine c_region ?_ | refine c_seq ?_ | refine x_then ?_ | refine c_dec_t rfl (by first | omega ) ?_ | refine c_block ?_ | refine c_skip ?_ )
    refine r_call rfl rfl rfl (fun W hW => IsCode_calls x W) ?_
    cases hc : isC x with
    | true =>
      have hf' : Unit → (l.take (k + 1)).all isC = true := fun _ => by rw [ht, List.all_append, hf ()]; simp [hc]
      repeat (first | refine l_val rfl rfl (by first | exact v_add rfl rfl (by omega) (by omega) | exact pureEval_ok rfl ) ?_ | refine l_nil ?_ | refine c_region ?_ | refine c_seq ?_ | refine x_then ?_ | refine c_false rfl ?_ | refine c_skip ?_ | refine x_block ?_ )
      exact x_back (k + 1) ⟨hlt, hf'⟩ (by omega) (by repeat (first | exact EnvSub.nil | refine EnvSub.cons rfl (by first | rfl | (congr 1; done) | (exact congrArg (Value.int _) (by omega)) | (simp; done)) ?_)) (by repeat (first | exact MSub.nil | refine MSub.keep (by first | rfl | assumption) ?_ | refine MSub.drop ?_ | exact MSub.refl _))
    | false =>
      have hno : l.all isC = false := by rw [List.all_eq_false]; exact ⟨x, List.mem_of_getElem? hx, by rw [hc]; decide⟩
      repeat (first | refine l_val rfl rfl (by first | exact pureEval_ok rfl ) ?_ | refine l_nil ?_ | refine c_region ?_ | refine c_seq ?_ | refine x_then ?_ | refine c_true rfl ?_ | refine c_ret ?_ | refine x_then_ret ?_ | refine x_block_ret ?_ )
      exact x_ret rfl rfl (by repeat (first | exact Res.nil | (apply Res.tmp; rfl) | (apply Res.cell; rfl; exact (by repeat (first | exact List.Mem.head _ | apply List.Mem.tail)); rfl; rfl))) rfl (fun W hW => ⟨by rw [hno], hW.below⟩)
  · have hkl : k = l.length := by omega
    subst hkl
    have hyes := hf ()
    rw [List.take_length] at hyes
    repeat (first | refine l_val rfl rfl (by first | exact pureEval_ok rfl ) ?_ | refine l_nil ?_ | refine c_region ?_ | refine c_seq ?_ | refine x_then ?_ | refine c_dec_f rfl (by first | omega ) ?_ | refine c_ret ?_ | refine c_exit ?_ | refine x_then_exit ?_ | refine x_block_same ?_ )
    exact x_ret rfl rfl (by repeat (first | exact Res.nil | (apply Res.tmp; rfl) | (apply Res.cell; rfl; exact (by repeat (first | exact List.Mem.head _ | apply List.Mem.tail)); rfl; rfl))) rfl (fun W hW => ⟨by rw [hyes], hW.below⟩)
end R41
end Go.Proofs
