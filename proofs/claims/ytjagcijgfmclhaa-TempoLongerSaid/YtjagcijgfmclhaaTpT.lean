/- Clocks: the ticks around a point of a bar, in the program. -/
import Derived.Test.YtjagcijgfmclhaaTpR
import Derived.Test.YtjagcijgfmclhaaTmAt
import Derived.Test.YtjagcijgfmclhaaRtRk
import Derived.Test.YtjagcijgfmclhaaRtCk
set_option linter.unusedSectionVars false
set_option linter.unusedVariables false
set_option linter.unusedSimpArgs false
namespace Go.Proofs
open Go.RowKit Go.Kin Go.Kin.Tm
namespace R13
section
variable {P : Program} {N : Nat} {c : Cx} {env : List (Nat × Value)} {mem : List (Nat × Obj)} {ty : TypeId} {pos : String} {af : Array Edge} {g : Option (Nat × Bool)} {dd : Option Tmp}
theorem v_remQ [Wide c.F] {t t' : TypeId} {x y : Operand} {m n q : Int} {kd : IntKind} (hx : evOp env x = some (.int kd m)) (hy : evOp env y = some (.int kd n)) (h2 : n ≠ 0) (hq : m.tmod n = q) :
    OpVal P N c env mem ⟨dd, .binOp .rem t x y t', ty, pos, af, g⟩ (.int kd q) := hq ▸ v_rem' hx hy h2
end
theorem down_calls (n d : Int) (w : World) (h1 : -1152921504606846976 ≤ n) (h2 : n ≤ 1152921504606846976) (h3 : 1 ≤ d) (h4 : d ≤ 1073741824) :
    Calls Try.prog 54 ⟨[.int .i64 n, .int .i64 d]⟩ w fun e w' => e = .returned (.int .i64 (n / d)) ∧ Below w.heap.size w w' := by
  have a := R12.tmod_bd n d h3
  have hd := R12.down_eq n d h3
  have hf : -1152921504606846976 ≤ n / d ∧ n / d ≤ 1152921504606846976 := by
    have a1 : n / d ≤ 1152921504606846976 := Int.le_trans (Int.ediv_le_ediv (by omega) h2) (Int.ediv_le_self _ (by omega))
    have a2 : -1152921504606846976 ≤ n / d := (Int.le_ediv_iff_mul_le (by omega)).2 (by
      have := Int.mul_le_mul_of_nonpos_left (a := -1152921504606846976) (b := d) (c := 1) (by omega) h3
      omega)
    exact ⟨a2, a1⟩
  obtain ⟨r, hr⟩ : ∃ r, n.tmod d = r := ⟨_, rfl⟩
  rw [hr] at a hd
  rw [Int.tmod_eq_emod_of_nonneg (show 0 ≤ r + d by omega)] at hd
  have b1 := Int.emod_nonneg (r + d) (show d ≠ 0 by omega)
  have b2 := Int.emod_lt_of_pos (r + d) (show 0 < d by omega)
  obtain ⟨q, hq⟩ : ∃ q, n / d = q := ⟨_, rfl⟩
  rw [hq] at hd hf ⊢
  have hw : IntKind.i64.wrap ((n - (r + d) % d).tdiv d) = q := by rw [hd, wrap_i64 (by omega) (by omega)]
  refine fun_enter Try.func54 rfl Try.ntmps54 rfl rfl (satW_nil w) ?_
  repeat ((fail_if_success refine c_probe (id := 1) ?_); (fail_if_success refine c_probe1 (id := 1) ?_); first | refine l_val rfl rfl (by first | exact pureEval_ok rfl ) ?_ | refine l_nil ?_ | refine c_region ?_ | refine c_seq ?_ | refine x_then ?_ )
  refine c_seq ?_
  refine c_region ?_
  refine l_val rfl rfl (pureEval_ok rfl) ?_
  refine l_val rfl rfl (pureEval_ok rfl) ?_
  refine l_val rfl rfl (pureEval_ok rfl) ?_
  refine l_val rfl rfl (v_remQ rfl rfl (by omega) hr) ?_
  repeat (first | refine l_val rfl rfl (by first | exact v_add rfl rfl (by omega) (by omega) | exact v_sub rfl rfl (by omega) (by omega) | exact pureEval_ok rfl | exact v_rem rfl rfl (by omega) (by omega) | exact v_quoA rfl rfl (by omega) (by assumption) ) ?_ | refine l_nil ?_ | refine x_then ?_ | refine c_ret ?_ )
  exact x_ret rfl rfl (by repeat (first | exact Res.nil | (apply Res.tmp; rfl) | (apply Res.cell; rfl; exact (by repeat (first | exact List.Mem.head _ | apply List.Mem.tail)); rfl; rfl))) rfl (fun W hW => ⟨rfl, hW.below⟩)

theorem mul_bd {a b : Int} (h1 : -1073741824 ≤ a) (h2 : a ≤ 1073741824) (h3 : 0 ≤ b) (h4 : b ≤ 65536) : -70368744177664 ≤ a * b ∧ a * b ≤ 70368744177664 := by
  have h : (a * b).natAbs ≤ 1073741824 * 65536 := by rw [Int.natAbs_mul]; exact Nat.mul_le_mul (by omega) (by omega)
  omega
theorem okB_of {n d : Int} (h : R12.okB n d = true) : 1 ≤ d ∧ d ≤ 1073741824 ∧ -1073741824 ≤ n ∧ n ≤ 1073741824 := by
  have := of_decide_eq_true h
  exact ⟨this.1, this.2.1, this.2.2.1, this.2.2.2.1⟩
theorem chkE_0 {n d : Int} : R12.chkE n d = 0 ↔ R12.okB n d = true := by
  unfold R12.chkE
  cases R12.okB n d <;> simp

set_option maxRecDepth 100000 in
set_option maxHeartbeats 4000000 in
theorem Times_calls (N D m : Int) (w : World) (hk : R12.okB N D = true) (hm1 : 0 ≤ m) (hm2 : m ≤ 65536) :
    Calls Try.prog 46 ⟨[.agg ⟨[.int .i64 N, .int .i64 D]⟩, .int .i64 m]⟩ w fun e w' => e = .returned (.tuple ⟨[.int .i64 (lowA N D m), .int .i64 (higA N D m), .int .i64 0]⟩) ∧ Below w.heap.size w w' := by
  obtain ⟨d1, d2, n1, n2⟩ := okB_of hk
  have c0 := chkE_0.2 hk
  clear hk
  have hb := mul_bd n1 n2 hm1 hm2
  have hneg : -N * m = -(N * m) := Int.neg_mul _ _
  have hb2 : -70368744177664 ≤ -N * m ∧ -N * m ≤ 70368744177664 := by rw [hneg]; omega
  obtain ⟨a1, a2⟩ := lowA_bd (N := N) (n := m) (D := D) (by omega)
  have hlo : N * m / D = lowA N D m := rfl
  have hhi : -(-N * m / D) = higA N D m := by rw [hneg]; rfl
  obtain ⟨q, hq⟩ : ∃ q, -N * m / D = q := ⟨_, rfl⟩
  have hqb : -70368744177664 ≤ q ∧ q ≤ 70368744177664 := by
    have e1 := Int.ediv_mul_le (-N * m) (show D ≠ 0 by omega)
    have e2 := Int.lt_ediv_add_one_mul_self (-N * m) (show 0 < D by omega)
    rw [hq] at e1 e2
    have a1 : q ≤ 70368744177664 := by
      rw [← hq]
      exact Int.le_trans (Int.ediv_le_ediv (by omega) hb2.2) (Int.ediv_le_self _ (by omega))
    have a2 : -70368744177664 ≤ q := by
      rw [← hq]
      exact (Int.le_ediv_iff_mul_le (by omega)).2 (by
        have := Int.mul_le_mul_of_nonpos_left (a := -70368744177664) (b := D) (c := 1) (by omega) d1
        omega)
    exact ⟨a2, a1⟩
  rw [hq] at hhi
  refine fun_enter Try.func46 rfl Try.ntmps46 rfl rfl (satW_nil w) ?_
  repeat (first | refine l_val rfl rfl (by first | exact pureEval_ok rfl | exact v_load rfl (by repeat (first | exact List.Mem.head _ | apply List.Mem.tail)) rfl (by rfl) ) ?_ | refine l_nil ?_ | refine c_region ?_ | refine c_seq ?_ | refine x_then ?_ | refine r_box rfl rfl rfl rfl (fun _ => ?_) )
  refine r_call rfl rfl rfl (fun W hW => R12.check_any N D W (by omega) (by omega) (by omega) (by omega)) ?_
  rw [c0]
  repeat (first | refine l_val rfl rfl (by first | exact pureEval_ok rfl ) ?_ | refine l_nil ?_ | refine c_region ?_ | refine c_seq ?_ | refine x_then ?_ | refine c_false rfl ?_ | refine c_dec_f rfl (by first | omega | exact fun h => h rfl ) ?_ | refine c_skip ?_ | refine l_dec_f rfl rfl rfl rfl rfl (by first | omega ) ?_ | refine c_reads rfl (by decide +kernel) ?_ | refine q_val rfl rfl (by first | exact v_mul rfl rfl (by omega) (by omega) | exact pureEval_ok rfl | exact v_load rfl (by repeat (first | exact List.Mem.head _ | apply List.Mem.tail)) rfl (by rfl) ) ?_ )
  refine q_call rfl rfl rfl (fun W hW => down_calls (N * m) D W (by omega) (by omega) d1 d2) ?_
  repeat (first | refine q_val rfl rfl (by first | exact v_mul rfl rfl (by omega) (by omega) | exact v_neg rfl (by omega) (by omega) | exact pureEval_ok rfl | exact v_load rfl (by repeat (first | exact List.Mem.head _ | apply List.Mem.tail)) rfl (by rfl) ) ?_ )
  refine q_call rfl rfl rfl (fun W hW => down_calls (-N * m) D W (by omega) (by omega) d1 d2) ?_
  rw [hq, hlo]
  repeat (first | refine x_then ?_ | refine c_ret ?_ | refine q_val rfl rfl (by first | exact v_neg rfl (by omega) (by omega) | exact pureEval_ok rfl ) ?_ | refine q_nil ?_ )
  exact x_ret rfl rfl (by repeat (first | exact Res.nil | (apply Res.tmp; rfl) | (apply Res.cell; rfl; exact (by repeat (first | exact List.Mem.head _ | apply List.Mem.tail)); rfl; rfl))) rfl (fun W hW => ⟨by rw [hhi], hW.below⟩)

/-- what At answers -/
def atA (c : Clk) (bar N D : Int) : Int × Int × Int :=
  if (tkA c bar).2 ≠ 0 then (0, 0, (tkA c bar).2) else if R12.okB N D = true then (if 0 ≤ N ∧ N ≤ D then (lowA N D (tkA c bar).1, higA N D (tkA c bar).1, 0) else (0, 0, 1)) else (0, 0, 120)
def v3 (p : Int × Int × Int) : Value := .tuple ⟨[.int .i64 p.1, .int .i64 p.2.1, .int .i64 p.2.2]⟩
theorem tkA_0 {c : Clk} {bar : Int} (h : (tkA c bar).2 = 0) : Ok c.n c.ts c.ps c.sp ∧ (0 ≤ bar ∧ bar ≤ c.n - 1) ∧ (tkA c bar).1 = tk c.ts bar := by
  by_cases h0 : c.k = 0
  · by_cases h1 : 0 ≤ bar ∧ bar ≤ c.n - 1
    · exact ⟨chk_ok.1 h0, h1, by rw [tkA_in h0 h1]⟩
    · rw [tkA_out h0 h1] at h; cases h
  · rw [tkA_no h0] at h; exact absurd h h0
theorem tkA_bd {c : Clk} {bar : Int} (h : (tkA c bar).2 = 0) : 1 ≤ (tkA c bar).1 ∧ (tkA c bar).1 ≤ 65536 := by
  obtain ⟨h1, h2, h3⟩ := tkA_0 h
  rw [h3]
  exact h1.bars bar h2.1 (by omega)

set_option maxRecDepth 100000 in
set_option maxHeartbeats 4000000 in
theorem At_calls (c : Clk) (bar N D : Int) (w : World) (hl : c.Sm) (hA : c.In w) (hN : -9223372036854775808 ≤ N ∧ N ≤ 9223372036854775807) (hD : -9223372036854775808 ≤ D ∧ D ≤ 9223372036854775807) :
    Calls Try.prog 22 ⟨[.agg ⟨c.v⟩, .int .i64 bar, .agg ⟨[.int .i64 N, .int .i64 D]⟩]⟩ w fun e w' => e = .returned (v3 (atA c bar N D)) ∧ Below w.heap.size w w' := by
  have hT := fun W hA => Ticks_calls c bar W hl hA
  have hbd := tkA_bd (c := c) (bar := bar)
  unfold atA
  generalize tkA c bar = p at *
  obtain ⟨T, E⟩ := p
  dsimp only at *
  refine fun_enter Try.func22 rfl Try.ntmps22 rfl rfl (satW_nil w) ?_
  repeat (first | refine l_val rfl rfl (by first | exact pureEval_ok rfl | exact v_load rfl (by repeat (first | exact List.Mem.head _ | apply List.Mem.tail)) rfl (by rfl) ) ?_ | refine l_nil ?_ | refine c_region ?_ | refine c_seq ?_ | refine x_then ?_ | refine r_box rfl rfl rfl rfl (fun _ => ?_) )
  refine r_call rfl rfl rfl (fun W hW => hT W (hA.sat hW)) ?_
  clear hT
  by_cases hE : E = 0
  rotate_left
  · repeat (first | refine l_val rfl rfl (by first | exact pureEval_ok rfl ) ?_ | refine l_nil ?_ | refine c_region ?_ | refine c_seq ?_ | refine x_then ?_ | refine c_dec_t rfl (by first | omega ) ?_ | refine c_ret ?_ | refine x_then_ret ?_ )
    exact x_ret rfl rfl (by repeat (first | exact Res.nil | (apply Res.tmp; rfl) | (apply Res.cell; rfl; exact (by repeat (first | exact List.Mem.head _ | apply List.Mem.tail)); rfl; rfl))) rfl (fun W hW => ⟨by rw [if_pos hE]; rfl, hW.below⟩)
  subst hE
  obtain ⟨t1, t2⟩ := hbd rfl
  clear hbd
  rw [if_neg (by simp)]
  repeat (first | refine l_val rfl rfl (by first | exact pureEval_ok rfl | exact v_load rfl (by repeat (first | exact List.Mem.head _ | apply List.Mem.tail)) rfl (by rfl) ) ?_ | refine l_nil ?_ | refine c_region ?_ | refine c_seq ?_ | refine x_then ?_ | refine c_false rfl ?_ | refine c_skip ?_ )
  refine r_call rfl rfl rfl (fun W hW => R12.check_any N D W hN.1 hN.2 hD.1 hD.2) ?_
  cases hk : R12.okB N D with
  | false =>
    have h120 : R12.chkE N D = 120 := by unfold R12.chkE; rw [hk]; rfl
    rw [h120, if_neg (by decide)]
    repeat (first | refine l_val rfl rfl (by first | exact pureEval_ok rfl ) ?_ | refine l_nil ?_ | refine c_region ?_ | refine c_seq ?_ | refine x_then ?_ | refine c_true rfl ?_ | refine c_ret ?_ | refine x_then_ret ?_ )
    exact x_ret rfl rfl (by repeat (first | exact Res.nil | (apply Res.tmp; rfl) | (apply Res.cell; rfl; exact (by repeat (first | exact List.Mem.head _ | apply List.Mem.tail)); rfl; rfl))) rfl (fun W hW => ⟨rfl, hW.below⟩)
  | true =>
    rw [chkE_0.2 hk, if_pos rfl]
    by_cases hb : 0 ≤ N ∧ N ≤ D
    · rw [if_pos hb]
      have hb' := fun (_ : Unit) => hb
      repeat (first | refine l_val rfl rfl (by first | exact pureEval_ok rfl | exact v_load rfl (by repeat (first | exact List.Mem.head _ | apply List.Mem.tail)) rfl (by rfl) ) ?_ | refine l_nil ?_ | refine c_region ?_ | refine c_seq ?_ | refine x_then ?_ | refine c_false rfl ?_ | refine c_skip ?_ | refine c_not_f rfl (by first | omega ) ?_ | (refine r_call rfl rfl rfl (fun W hW => in_calls _ _ _ W) ?_) )
      refine r_call rfl rfl rfl (fun W hW => Times_calls N D T W hk (by omega) t2) ?_
      repeat (first | refine l_val rfl rfl (by first | exact pureEval_ok rfl ) ?_ | refine l_nil ?_ | refine x_then ?_ | refine c_ret ?_ )
      exact x_ret rfl rfl (by repeat (first | exact Res.nil | (apply Res.tmp; rfl) | (apply Res.cell; rfl; exact (by repeat (first | exact List.Mem.head _ | apply List.Mem.tail)); rfl; rfl))) rfl (fun W hW => ⟨rfl, hW.below⟩)
    · rw [if_neg hb]
      repeat (first | refine l_val rfl rfl (by first | exact pureEval_ok rfl | exact v_load rfl (by repeat (first | exact List.Mem.head _ | apply List.Mem.tail)) rfl (by rfl) ) ?_ | refine l_nil ?_ | refine c_region ?_ | refine c_seq ?_ | refine x_then ?_ | refine c_false rfl ?_ | refine c_skip ?_ | refine c_ret ?_ | refine x_then_ret ?_ | refine c_not_t rfl (by first | omega ) ?_ | (refine r_call rfl rfl rfl (fun W hW => in_calls _ _ _ W) ?_) )
      exact x_ret rfl rfl (by repeat (first | exact Res.nil | (apply Res.tmp; rfl) | (apply Res.cell; rfl; exact (by repeat (first | exact List.Mem.head _ | apply List.Mem.tail)); rfl; rfl))) rfl (fun W hW => ⟨rfl, hW.below⟩)
end R13
end Go.Proofs
