/- Intervals: sums and products are commutative, associative and subdistributive; walked. Printed by gen_laws.py. -/
import Derived.Test.YtfebhegaomdcoaaIvSp
set_option linter.unusedSectionVars false
set_option linter.unusedVariables false
set_option linter.unusedSimpArgs false
namespace Go.Proofs
open Go.RowKit Go.Kin Go.Kin.Iv
namespace R21

theorem le_of {a b : Int} (h : vB a b = true) : a ≤ b := (vB_iff.1 h).2.1
set_option maxHeartbeats 8000000 in
theorem intervalLaws_calls (a b c d e f : Int) (w : World) : Calls Try.prog 10 ⟨[.agg ⟨rgE a b⟩, .agg ⟨rgE c d⟩, .agg ⟨rgE e f⟩]⟩ w fun e w' => e = .returned (.bool true) ∧ Below w.heap.size w w' := by
  refine fun_enter Try.func10 rfl Try.ntmps10 rfl rfl (satW_nil w) ?_
  obtain ⟨l1, h1, e1, q1, s1⟩ := ad_sp a b c d
  obtain ⟨l2, h2, e2, q2, s2⟩ := mu_sp a b c d
  repeat (first | refine l_val rfl rfl (by first | exact pureEval_ok rfl ) ?_ | refine l_nil ?_ | refine c_region ?_ | refine c_seq ?_ | refine x_then ?_ | refine r_box rfl rfl rfl rfl (fun _ => ?_) )
  refine r_call rfl rfl rfl (fun W hW => sane_calls W) ?_
  repeat (first | refine l_val rfl rfl (by first | exact pureEval_ok rfl | exact v_load rfl (by repeat (first | exact List.Mem.head _ | apply List.Mem.tail)) rfl (by rfl) ) ?_ | refine l_nil ?_ | refine c_region ?_ | refine c_seq ?_ | refine x_then ?_ | refine c_false rfl ?_ | refine c_skip ?_ )
  refine r_call rfl rfl rfl (fun W hW => Add_calls a b c d W) ?_
  rw [q1]
  repeat (first | refine l_val rfl rfl (by first | exact pureEval_ok rfl | exact v_load rfl (by repeat (first | exact List.Mem.head _ | apply List.Mem.tail)) rfl (by rfl) ) ?_ | refine l_nil ?_ | refine c_region ?_ | refine c_seq ?_ | refine x_then ?_ | refine r_alloc rfl rfl rfl (by first | exact aggL ) (fun _ => ?_) | refine r_store rfl rfl rfl rfl rfl rfl rfl (by repeat (first | exact Upd.head | apply Upd.tail)) (by rfl) ?_ )
  refine r_call rfl rfl rfl (fun W hW => Add_calls c d a b W) ?_
  rw [ad_comm, q1]
  repeat (first | refine l_val rfl rfl (by first | exact pureEval_ok rfl | exact v_load rfl (by repeat (first | exact List.Mem.head _ | apply List.Mem.tail)) rfl (by rfl) ) ?_ | refine l_nil ?_ | refine c_region ?_ | refine c_seq ?_ | refine x_then ?_ | refine r_alloc rfl rfl rfl (by first | exact aggL ) (fun _ => ?_) | refine r_store rfl rfl rfl rfl rfl rfl rfl (by repeat (first | exact Upd.head | apply Upd.tail)) (by rfl) ?_ )
  refine r_call rfl rfl rfl (fun W hW => Mul_calls a b c d W) ?_
  rw [q2]
  repeat (first | refine l_val rfl rfl (by first | exact pureEval_ok rfl | exact v_load rfl (by repeat (first | exact List.Mem.head _ | apply List.Mem.tail)) rfl (by rfl) ) ?_ | refine l_nil ?_ | refine c_region ?_ | refine c_seq ?_ | refine x_then ?_ | refine r_alloc rfl rfl rfl (by first | exact aggL ) (fun _ => ?_) | refine r_store rfl rfl rfl rfl rfl rfl rfl (by repeat (first | exact Upd.head | apply Upd.tail)) (by rfl) ?_ )
  refine r_call rfl rfl rfl (fun W hW => Mul_calls c d a b W) ?_
  rw [mu_comm, q2]
  repeat ((fail_if_success refine c_probe (id := 9) ?_); (fail_if_success refine c_probe1 (id := 9) ?_); first | refine l_val rfl rfl (by first | exact pureEval_ok rfl | exact v_load rfl (by repeat (first | exact List.Mem.head _ | apply List.Mem.tail)) rfl (by rfl) | exact v_neS rfl rfl rfl rfl ) ?_ | refine l_nil ?_ | refine c_region ?_ | refine c_seq ?_ | refine x_then ?_ | refine r_alloc rfl rfl rfl (by first | exact aggL ) (fun _ => ?_) | refine r_store rfl rfl rfl rfl rfl rfl rfl (by repeat (first | exact Upd.head | apply Upd.tail)) (by rfl) ?_ | refine c_dec_f rfl (by first | omega | exact fun h => h rfl ) ?_ | refine c_skip ?_ | refine l_dec_f rfl rfl rfl rfl rfl (by first | omega | exact fun h => h rfl ) ?_ | refine l_nand_f rfl rfl rfl rfl (by first | omega ) (by first | omega ) ?_ )
  refine c_keep [3, 4, 5, 7, 8, 11, 12] rfl ?_
  rename_i p3 p4 p5 p7 p9 p11 p13
  refine c_join [(3, .pointer (some ⟨p3, 0, none⟩)), (4, .pointer (some ⟨p4, 0, none⟩)), (5, .pointer (some ⟨p5, 0, none⟩)), (7, .pointer (some ⟨p7, 0, none⟩)), (11, .pointer (some ⟨p11, 0, none⟩)), (8, .int .i64 e1), (12, .int .i64 e2)] [(p11, .cells ⟨[.int .i64 l2, .int .i64 h2]⟩ 23 (0, 0)), (p7, .cells ⟨[.int .i64 l1, .int .i64 h1]⟩ 23 (0, 0)), (p5, .cells ⟨[.int .i64 e, .int .i64 f]⟩ 23 (0, 0)), (p4, .cells ⟨[.int .i64 c, .int .i64 d]⟩ 23 (0, 0)), (p3, .cells ⟨[.int .i64 a, .int .i64 b]⟩ 23 (0, 0))] ?_ ?_
  · rcases s1.out with ⟨z1, ⟨v1, v2⟩, z2, z3, v3⟩ | ⟨z1, z2, z3⟩
    · obtain ⟨lb, hb, eb, qb, sb⟩ := su_sp l1 h1 c d
      rw [z1]
      repeat (first | refine l_val rfl rfl (by first | exact pureEval_ok rfl | exact v_load rfl (by repeat (first | exact List.Mem.head _ | apply List.Mem.tail)) rfl (by rfl) ) ?_ | refine l_nil ?_ | refine c_region ?_ | refine c_seq ?_ | refine x_then ?_ | refine c_true rfl ?_ )
      refine r_call rfl rfl rfl (fun W hW => Sub_calls l1 h1 c d W) ?_
      rw [qb]
      rcases sb.out with ⟨y1, _, y2, y3, v4⟩ | ⟨y1, y2, y3⟩
      · rw [y1]
        repeat (first | refine l_val rfl rfl (by first | exact pureEval_ok rfl | exact v_load rfl (by repeat (first | exact List.Mem.head _ | apply List.Mem.tail)) rfl (by rfl) ) ?_ | refine l_nil ?_ | refine c_region ?_ | refine c_seq ?_ | refine x_then ?_ | refine r_alloc rfl rfl rfl (by first | exact aggL ) (fun _ => ?_) | refine r_store rfl rfl rfl rfl rfl rfl rfl (by repeat (first | exact Upd.head | apply Upd.tail)) (by rfl) ?_ )
        refine r_call rfl rfl rfl (fun W hW => Inside_calls a b lb hb W) ?_
        rw [in_yes v1 v4 (by have := le_of v2; omega) (by have := le_of v2; omega)]
        repeat (first | refine l_val rfl rfl (by first | exact pureEval_ok rfl ) ?_ | refine l_nil ?_ | refine c_region ?_ | refine c_seq ?_ | refine x_then ?_ | refine c_false rfl ?_ | refine c_skip ?_ )
        exact x_mid (by repeat (first | exact EnvSub.nil | refine EnvSub.cons rfl (by first | rfl | (congr 1; done) | (exact congrArg (Value.int _) (by omega)) | (simp; done)) ?_)) (by repeat (first | exact MSub.nil | refine MSub.keep (by first | rfl | assumption) ?_ | refine MSub.drop ?_ | exact MSub.refl _))
      · repeat (first | refine l_val rfl rfl (by first | exact pureEval_ok rfl | exact v_load rfl (by repeat (first | exact List.Mem.head _ | apply List.Mem.tail)) rfl (by rfl) ) ?_ | refine l_nil ?_ | refine c_region ?_ | refine c_seq ?_ | refine x_then ?_ | refine r_alloc rfl rfl rfl (by first | exact aggL ) (fun _ => ?_) | refine r_store rfl rfl rfl rfl rfl rfl rfl (by repeat (first | exact Upd.head | apply Upd.tail)) (by rfl) ?_ )
        refine r_call rfl rfl rfl (fun W hW => Inside_calls a b lb hb W) ?_
        repeat (first | refine l_val rfl rfl (by first | exact pureEval_ok rfl ) ?_ | refine l_nil ?_ | refine c_region ?_ | refine c_seq ?_ | refine x_then ?_ | refine l_skip rfl rfl ?_ | refine c_false rfl ?_ | refine c_skip ?_ | refine l_dec_f rfl rfl rfl rfl rfl (by first | omega ) ?_ )
        exact x_mid (by repeat (first | exact EnvSub.nil | refine EnvSub.cons rfl (by first | rfl | (congr 1; done) | (exact congrArg (Value.int _) (by omega)) | (simp; done)) ?_)) (by repeat (first | exact MSub.nil | refine MSub.keep (by first | rfl | assumption) ?_ | refine MSub.drop ?_ | exact MSub.refl _))
    · repeat (first | refine l_val rfl rfl (by first | exact pureEval_ok rfl ) ?_ | refine l_nil ?_ | refine c_region ?_ | refine c_seq ?_ | refine x_then ?_ | refine c_dec_f rfl (by first | omega ) ?_ | refine c_skip ?_ )
      exact x_mid (by repeat (first | exact EnvSub.nil | refine EnvSub.cons rfl (by first | rfl | (congr 1; done) | (exact congrArg (Value.int _) (by omega)) | (simp; done)) ?_)) (by repeat (first | exact MSub.nil | refine MSub.keep (by first | rfl | assumption) ?_ | refine MSub.drop ?_ | exact MSub.refl _))
  · obtain ⟨l3, h3, e3, q3, s3⟩ := ad_sp c d e f
    obtain ⟨l4, h4, e4, q4, s4⟩ := ad_sp l1 h1 e f
    obtain ⟨l5, h5, e5, q5, s5⟩ := ad_sp a b l3 h3
    repeat (first | refine l_val rfl rfl (by first | exact v_load rfl (by repeat (first | exact List.Mem.head _ | apply List.Mem.tail)) rfl (by rfl) ) ?_ | refine c_region ?_ | refine c_seq ?_ )
    refine r_call rfl rfl rfl (fun W hW => Add_calls c d e f W) ?_
    rw [q3]
    repeat (first | refine l_val rfl rfl (by first | exact pureEval_ok rfl | exact v_load rfl (by repeat (first | exact List.Mem.head _ | apply List.Mem.tail)) rfl (by rfl) ) ?_ | refine l_nil ?_ | refine c_region ?_ | refine c_seq ?_ | refine x_then ?_ | refine r_alloc rfl rfl rfl (by first | exact aggL ) (fun _ => ?_) | refine r_store rfl rfl rfl rfl rfl rfl rfl (by repeat (first | exact Upd.head | apply Upd.tail)) (by rfl) ?_ )
    refine r_call rfl rfl rfl (fun W hW => Add_calls l1 h1 e f W) ?_
    rw [q4]
    repeat (first | refine l_val rfl rfl (by first | exact pureEval_ok rfl | exact v_load rfl (by repeat (first | exact List.Mem.head _ | apply List.Mem.tail)) rfl (by rfl) ) ?_ | refine l_nil ?_ | refine c_region ?_ | refine c_seq ?_ | refine x_then ?_ | refine r_alloc rfl rfl rfl (by first | exact aggL ) (fun _ => ?_) | refine r_store rfl rfl rfl rfl rfl rfl rfl (by repeat (first | exact Upd.head | apply Upd.tail)) (by rfl) ?_ )
    refine r_call rfl rfl rfl (fun W hW => Add_calls a b l3 h3 W) ?_
    rw [q5]
    repeat ((fail_if_success refine c_probe (id := 17) ?_); (fail_if_success refine c_probe1 (id := 17) ?_); first | refine l_val rfl rfl (by first | exact pureEval_ok rfl ) ?_ | refine l_nil ?_ | refine x_then ?_ | refine r_alloc rfl rfl rfl (by first | exact aggL ) (fun _ => ?_) | refine r_store rfl rfl rfl rfl rfl rfl rfl (by repeat (first | exact Upd.head | apply Upd.tail)) (by rfl) ?_ )
    refine c_keep [3, 4, 5, 7, 8, 11, 12, 19, 20, 21, 22, 23, 24] rfl ?_
    rename_i p19 p21 p23
    refine c_join [(3, .pointer (some ⟨p3, 0, none⟩)), (4, .pointer (some ⟨p4, 0, none⟩)), (5, .pointer (some ⟨p5, 0, none⟩)), (7, .pointer (some ⟨p7, 0, none⟩)), (11, .pointer (some ⟨p11, 0, none⟩)), (19, .pointer (some ⟨p19, 0, none⟩)), (21, .pointer (some ⟨p21, 0, none⟩)), (23, .pointer (some ⟨p23, 0, none⟩)), (8, .int .i64 e1), (12, .int .i64 e2), (20, .int .i64 e3), (22, .int .i64 e4), (24, .int .i64 e5)] [(p23, .cells ⟨[.int .i64 l5, .int .i64 h5]⟩ 23 (0, 0)), (p21, .cells ⟨[.int .i64 l4, .int .i64 h4]⟩ 23 (0, 0)), (p19, .cells ⟨[.int .i64 l3, .int .i64 h3]⟩ 23 (0, 0)), (p11, .cells ⟨[.int .i64 l2, .int .i64 h2]⟩ 23 (0, 0)), (p7, .cells ⟨[.int .i64 l1, .int .i64 h1]⟩ 23 (0, 0)), (p5, .cells ⟨[.int .i64 e, .int .i64 f]⟩ 23 (0, 0)), (p4, .cells ⟨[.int .i64 c, .int .i64 d]⟩ 23 (0, 0)), (p3, .cells ⟨[.int .i64 a, .int .i64 b]⟩ 23 (0, 0))] ?_ ?_
    · by_cases z1 : e1 = 0
      · by_cases z3 : e3 = 0
        · obtain ⟨_, ⟨v1, v2⟩, x1, x2, v3⟩ := s1.out.resolve_right (fun h => h.1 z1)
          obtain ⟨_, ⟨v4, v5⟩, y1, y2, v6⟩ := s3.out.resolve_right (fun h => h.1 z3)
          have hh : tup l4 h4 e4 = tup l5 h5 e5 := by
            rw [← q4, ← q5, v3, v1, v5, v6, x1, x2, y1, y2, Int.add_assoc, Int.add_assoc]
          obtain ⟨t1, t2, t3⟩ := tup_inj hh
          rw [z1, z3]
          repeat (first | refine l_val rfl rfl (by first | exact pureEval_ok rfl | exact v_load rfl (by repeat (first | exact List.Mem.head _ | apply List.Mem.tail)) rfl (by rfl) | exact v_neS rfl rfl rfl rfl ) ?_ | refine l_nil ?_ | refine c_region ?_ | refine c_seq ?_ | refine x_then ?_ | refine c_dec_f rfl (by first | omega | exact fun h => h rfl ) ?_ | refine c_skip ?_ | refine l_nand_f rfl rfl rfl rfl (by first | omega ) (by first | omega ) ?_ )
          exact x_mid (by repeat (first | exact EnvSub.nil | refine EnvSub.cons rfl (by first | rfl | (congr 1; done) | (exact congrArg (Value.int _) (by omega)) | (simp; done)) ?_)) (by repeat (first | exact MSub.nil | refine MSub.keep (by first | rfl | assumption) ?_ | refine MSub.drop ?_ | exact MSub.refl _))
        · repeat (first | refine l_val rfl rfl (by first | exact pureEval_ok rfl | exact v_load rfl (by repeat (first | exact List.Mem.head _ | apply List.Mem.tail)) rfl (by rfl) ) ?_ | refine l_nil ?_ | refine c_region ?_ | refine c_seq ?_ | refine x_then ?_ | refine l_skip rfl rfl ?_ | refine c_false rfl ?_ | refine c_skip ?_ | refine l_dec_t rfl rfl rfl rfl rfl (by first | omega ) ?_ | refine l_dec_f rfl rfl rfl rfl rfl (by first | omega ) ?_ )
          exact x_mid (by repeat (first | exact EnvSub.nil | refine EnvSub.cons rfl (by first | rfl | (congr 1; done) | (exact congrArg (Value.int _) (by omega)) | (simp; done)) ?_)) (by repeat (first | exact MSub.nil | refine MSub.keep (by first | rfl | assumption) ?_ | refine MSub.drop ?_ | exact MSub.refl _))
      · repeat (first | refine l_val rfl rfl (by first | exact pureEval_ok rfl | exact v_load rfl (by repeat (first | exact List.Mem.head _ | apply List.Mem.tail)) rfl (by rfl) ) ?_ | refine l_nil ?_ | refine c_region ?_ | refine c_seq ?_ | refine x_then ?_ | refine l_skip rfl rfl ?_ | refine c_false rfl ?_ | refine c_skip ?_ | refine l_dec_f rfl rfl rfl rfl rfl (by first | omega ) ?_ )
        exact x_mid (by repeat (first | exact EnvSub.nil | refine EnvSub.cons rfl (by first | rfl | (congr 1; done) | (exact congrArg (Value.int _) (by omega)) | (simp; done)) ?_)) (by repeat (first | exact MSub.nil | refine MSub.keep (by first | rfl | assumption) ?_ | refine MSub.drop ?_ | exact MSub.refl _))
    · obtain ⟨l6, h6, e6, q6, s6⟩ := mu_sp c d e f
      obtain ⟨l7, h7, e7, q7, s7⟩ := mu_sp l2 h2 e f
      obtain ⟨l8, h8, e8, q8, s8⟩ := mu_sp a b l6 h6
      repeat (first | refine l_val rfl rfl (by first | exact v_load rfl (by repeat (first | exact List.Mem.head _ | apply List.Mem.tail)) rfl (by rfl) ) ?_ | refine c_region ?_ | refine c_seq ?_ )
      refine r_call rfl rfl rfl (fun W hW => Mul_calls c d e f W) ?_
      rw [q6]
      repeat (first | refine l_val rfl rfl (by first | exact pureEval_ok rfl | exact v_load rfl (by repeat (first | exact List.Mem.head _ | apply List.Mem.tail)) rfl (by rfl) ) ?_ | refine l_nil ?_ | refine c_region ?_ | refine c_seq ?_ | refine x_then ?_ | refine r_alloc rfl rfl rfl (by first | exact aggL ) (fun _ => ?_) | refine r_store rfl rfl rfl rfl rfl rfl rfl (by repeat (first | exact Upd.head | apply Upd.tail)) (by rfl) ?_ )
      refine r_call rfl rfl rfl (fun W hW => Mul_calls l2 h2 e f W) ?_
      rw [q7]
      repeat (first | refine l_val rfl rfl (by first | exact pureEval_ok rfl | exact v_load rfl (by repeat (first | exact List.Mem.head _ | apply List.Mem.tail)) rfl (by rfl) ) ?_ | refine l_nil ?_ | refine c_region ?_ | refine c_seq ?_ | refine x_then ?_ | refine r_store rfl rfl rfl rfl rfl rfl rfl (by repeat (first | exact Upd.head | apply Upd.tail)) (by rfl) ?_ )
      refine r_call rfl rfl rfl (fun W hW => Mul_calls a b l6 h6 W) ?_
      rw [q8]
      repeat ((fail_if_success refine c_probe (id := 22) ?_); (fail_if_success refine c_probe1 (id := 22) ?_); first | refine l_val rfl rfl (by first | exact pureEval_ok rfl ) ?_ | refine l_nil ?_ | refine x_then ?_ | refine r_store rfl rfl rfl rfl rfl rfl rfl (by repeat (first | exact Upd.head | apply Upd.tail)) (by rfl) ?_ )
      refine c_keep [3, 4, 5, 7, 11, 12, 19, 20, 21, 22, 23, 24, 26] rfl ?_
      clear s4 s5 q4 q5
      refine c_join [(3, .pointer (some ⟨p3, 0, none⟩)), (4, .pointer (some ⟨p4, 0, none⟩)), (5, .pointer (some ⟨p5, 0, none⟩)), (7, .pointer (some ⟨p7, 0, none⟩)), (11, .pointer (some ⟨p11, 0, none⟩)), (19, .pointer (some ⟨p19, 0, none⟩)), (12, .int .i64 e2), (20, .int .i64 e3)] [(p19, .cells ⟨[.int .i64 l3, .int .i64 h3]⟩ 23 (0, 0)), (p11, .cells ⟨[.int .i64 l2, .int .i64 h2]⟩ 23 (0, 0)), (p7, .cells ⟨[.int .i64 l1, .int .i64 h1]⟩ 23 (0, 0)), (p5, .cells ⟨[.int .i64 e, .int .i64 f]⟩ 23 (0, 0)), (p4, .cells ⟨[.int .i64 c, .int .i64 d]⟩ 23 (0, 0)), (p3, .cells ⟨[.int .i64 a, .int .i64 b]⟩ 23 (0, 0))] ?_ ?_
      · by_cases z2 : e2 = 0
        · by_cases z6 : e6 = 0
          · by_cases z7 : e7 = 0
            · by_cases z8 : e8 = 0
              · obtain ⟨_, ⟨v1, v2⟩, x1, x2, v3⟩ := s2.out.resolve_right (fun h => h.1 z2)
                obtain ⟨_, ⟨_, v5⟩, y1, y2, v6⟩ := s6.out.resolve_right (fun h => h.1 z6)
                obtain ⟨_, _, u1, u2, _⟩ := s7.out.resolve_right (fun h => h.1 z7)
                obtain ⟨_, _, u3, u4, _⟩ := s8.out.resolve_right (fun h => h.1 z8)
                have t1 : l7 = l8 := by rw [u1, u3, x1, x2, y1, y2]; exact mn_assoc (le_of v1) (le_of v2) (le_of v5)
                have t2 : h7 = h8 := by rw [u2, u4, x1, x2, y1, y2]; exact mx_assoc (le_of v1) (le_of v2) (le_of v5)
                clear q1 q2 q3 q6 q7 q8 s1 s2 s3 s6 s7 s8 x1 x2 y1 y2 u1 u2 u3 u4
                repeat (first | refine l_val rfl rfl (by first | exact pureEval_ok rfl | exact v_load rfl (by repeat (first | exact List.Mem.head _ | apply List.Mem.tail)) rfl (by rfl) | exact v_neS rfl rfl rfl rfl ) ?_ | refine l_nil ?_ | refine c_region ?_ | refine c_seq ?_ | refine x_then ?_ | refine c_skip ?_ | refine l_dec_t rfl rfl rfl rfl rfl (by first | omega ) ?_ | refine c_nand_f rfl (by first | omega ) (by first | omega ) ?_ )
                exact x_mid (by repeat (first | exact EnvSub.nil | refine EnvSub.cons rfl (by first | rfl | (congr 1; done) | (exact congrArg (Value.int _) (by omega)) | (simp; done)) ?_)) (by repeat (first | exact MSub.nil | refine MSub.keep (by first | rfl | assumption) ?_ | refine MSub.drop ?_ | exact MSub.refl _))
              · clear q1 q2 q3 q6 q7 q8 s1 s2 s3 s6 s7 s8
                repeat (first | refine l_val rfl rfl (by first | exact pureEval_ok rfl | exact v_load rfl (by repeat (first | exact List.Mem.head _ | apply List.Mem.tail)) rfl (by rfl) ) ?_ | refine l_nil ?_ | refine c_region ?_ | refine c_seq ?_ | refine x_then ?_ | refine l_skip rfl rfl ?_ | refine c_false rfl ?_ | refine c_skip ?_ | refine l_dec_t rfl rfl rfl rfl rfl (by first | omega ) ?_ | refine l_dec_f rfl rfl rfl rfl rfl (by first | omega ) ?_ )
                exact x_mid (by repeat (first | exact EnvSub.nil | refine EnvSub.cons rfl (by first | rfl | (congr 1; done) | (exact congrArg (Value.int _) (by omega)) | (simp; done)) ?_)) (by repeat (first | exact MSub.nil | refine MSub.keep (by first | rfl | assumption) ?_ | refine MSub.drop ?_ | exact MSub.refl _))
            · clear q1 q2 q3 q6 q7 q8 s1 s2 s3 s6 s7 s8
              repeat (first | refine l_val rfl rfl (by first | exact pureEval_ok rfl | exact v_load rfl (by repeat (first | exact List.Mem.head _ | apply List.Mem.tail)) rfl (by rfl) ) ?_ | refine l_nil ?_ | refine c_region ?_ | refine c_seq ?_ | refine x_then ?_ | refine l_skip rfl rfl ?_ | refine c_false rfl ?_ | refine c_skip ?_ | refine l_dec_t rfl rfl rfl rfl rfl (by first | omega ) ?_ | refine l_dec_f rfl rfl rfl rfl rfl (by first | omega ) ?_ )
              exact x_mid (by repeat (first | exact EnvSub.nil | refine EnvSub.cons rfl (by first | rfl | (congr 1; done) | (exact congrArg (Value.int _) (by omega)) | (simp; done)) ?_)) (by repeat (first | exact MSub.nil | refine MSub.keep (by first | rfl | assumption) ?_ | refine MSub.drop ?_ | exact MSub.refl _))
          · clear q1 q2 q3 q6 q7 q8 s1 s2 s3 s6 s7 s8
            repeat (first | refine l_val rfl rfl (by first | exact pureEval_ok rfl | exact v_load rfl (by repeat (first | exact List.Mem.head _ | apply List.Mem.tail)) rfl (by rfl) ) ?_ | refine l_nil ?_ | refine c_region ?_ | refine c_seq ?_ | refine x_then ?_ | refine l_skip rfl rfl ?_ | refine c_false rfl ?_ | refine c_skip ?_ | refine l_dec_t rfl rfl rfl rfl rfl (by first | omega ) ?_ | refine l_dec_f rfl rfl rfl rfl rfl (by first | omega ) ?_ )
            exact x_mid (by repeat (first | exact EnvSub.nil | refine EnvSub.cons rfl (by first | rfl | (congr 1; done) | (exact congrArg (Value.int _) (by omega)) | (simp; done)) ?_)) (by repeat (first | exact MSub.nil | refine MSub.keep (by first | rfl | assumption) ?_ | refine MSub.drop ?_ | exact MSub.refl _))
        · clear q1 q2 q3 q6 q7 q8 s1 s2 s3 s6 s7 s8
          repeat (first | refine l_val rfl rfl (by first | exact pureEval_ok rfl | exact v_load rfl (by repeat (first | exact List.Mem.head _ | apply List.Mem.tail)) rfl (by rfl) ) ?_ | refine l_nil ?_ | refine c_region ?_ | refine c_seq ?_ | refine x_then ?_ | refine l_skip rfl rfl ?_ | refine c_false rfl ?_ | refine c_skip ?_ | refine l_dec_f rfl rfl rfl rfl rfl (by first | omega ) ?_ )
          exact x_mid (by repeat (first | exact EnvSub.nil | refine EnvSub.cons rfl (by first | rfl | (congr 1; done) | (exact congrArg (Value.int _) (by omega)) | (simp; done)) ?_)) (by repeat (first | exact MSub.nil | refine MSub.keep (by first | rfl | assumption) ?_ | refine MSub.drop ?_ | exact MSub.refl _))
      · clear q6 q7 q8 s6 s7 s8
        obtain ⟨l9, h9, e9, q9, s9⟩ := mu_sp a b e f
        obtain ⟨l10, h10, e10, q10, s10⟩ := mu_sp a b l3 h3
        obtain ⟨l11, h11, e11, q11, s11⟩ := ad_sp l2 h2 l9 h9
        repeat (first | refine l_val rfl rfl (by first | exact v_load rfl (by repeat (first | exact List.Mem.head _ | apply List.Mem.tail)) rfl (by rfl) ) ?_ | refine c_region ?_ | refine c_seq ?_ )
        refine r_call rfl rfl rfl (fun W hW => Mul_calls a b e f W) ?_
        rw [q9]
        repeat (first | refine l_val rfl rfl (by first | exact pureEval_ok rfl | exact v_load rfl (by repeat (first | exact List.Mem.head _ | apply List.Mem.tail)) rfl (by rfl) ) ?_ | refine l_nil ?_ | refine c_region ?_ | refine c_seq ?_ | refine x_then ?_ | refine r_alloc rfl rfl rfl (by first | exact aggL ) (fun _ => ?_) | refine r_store rfl rfl rfl rfl rfl rfl rfl (by repeat (first | exact Upd.head | apply Upd.tail)) (by rfl) ?_ )
        refine r_call rfl rfl rfl (fun W hW => Mul_calls a b l3 h3 W) ?_
        rw [q10]
        repeat (first | refine l_val rfl rfl (by first | exact pureEval_ok rfl | exact v_load rfl (by repeat (first | exact List.Mem.head _ | apply List.Mem.tail)) rfl (by rfl) ) ?_ | refine l_nil ?_ | refine c_region ?_ | refine c_seq ?_ | refine x_then ?_ | refine r_alloc rfl rfl rfl (by first | exact aggL ) (fun _ => ?_) | refine r_store rfl rfl rfl rfl rfl rfl rfl (by repeat (first | exact Upd.head | apply Upd.tail)) (by rfl) ?_ )
        refine r_call rfl rfl rfl (fun W hW => Add_calls l2 h2 l9 h9 W) ?_
        rw [q11]
        repeat ((fail_if_success refine c_probe (id := 27) ?_); (fail_if_success refine c_probe1 (id := 27) ?_); first | refine l_val rfl rfl (by first | exact pureEval_ok rfl ) ?_ | refine l_nil ?_ | refine x_then ?_ | refine r_alloc rfl rfl rfl (by first | exact aggL ) (fun _ => ?_) | refine r_store rfl rfl rfl rfl rfl rfl rfl (by repeat (first | exact Upd.head | apply Upd.tail)) (by rfl) ?_ )
        refine c_keep [12, 20, 28, 30, 32, 29, 31] rfl ?_
        by_cases z3 : e3 = 0
        · by_cases z2 : e2 = 0
          · by_cases z9 : e9 = 0
            · by_cases z10 : e10 = 0
              · by_cases z11 : e11 = 0
                · obtain ⟨_, ⟨v2, v3⟩, x1, x2, _⟩ := s3.out.resolve_right (fun h => h.1 z3)
                  obtain ⟨_, ⟨v1, _⟩, x3, x4, _⟩ := s2.out.resolve_right (fun h => h.1 z2)
                  obtain ⟨_, _, x5, x6, _⟩ := s9.out.resolve_right (fun h => h.1 z9)
                  obtain ⟨_, _, x7, x8, v4⟩ := s10.out.resolve_right (fun h => h.1 z10)
                  obtain ⟨_, _, x9, x10, v5⟩ := s11.out.resolve_right (fun h => h.1 z11)
                  have t1 : l11 ≤ l10 := by rw [x9, x7, x3, x5, x1, x2]; exact mn_dist (le_of v1) (le_of v2) (le_of v3)
                  have t2 : h10 ≤ h11 := by rw [x10, x8, x4, x6, x1, x2]; exact mx_dist (le_of v1) (le_of v2) (le_of v3)
                  clear q1 q2 q3 q9 q10 q11 s1 s2 s3 s9 s10 s11 x1 x2 x3 x4 x5 x6 x7 x8 x9 x10
                  repeat (first | refine l_val rfl rfl (by first | exact pureEval_ok rfl | exact v_load rfl (by repeat (first | exact List.Mem.head _ | apply List.Mem.tail)) rfl (by rfl) ) ?_ | refine l_nil ?_ | refine c_region ?_ | refine c_seq ?_ | refine x_then ?_ | refine c_dec_f rfl (by first | omega | exact fun h => h rfl ) ?_ | refine c_skip ?_ | refine l_dec_f rfl rfl rfl rfl rfl (by first | omega | exact fun h => h rfl ) ?_ )
                  refine r_call rfl rfl rfl (fun W hW => Inside_calls l10 h10 l11 h11 W) ?_
                  rw [in_yes v4 v5 t1 t2]
                  repeat (first | refine l_val rfl rfl (by first | exact pureEval_ok rfl ) ?_ | refine l_nil ?_ | refine c_region ?_ | refine c_seq ?_ | refine x_then ?_ | refine c_ret ?_ )
                  exact x_ret rfl rfl (by repeat (first | exact Res.nil | (apply Res.tmp; rfl) | (apply Res.cell; rfl; exact (by repeat (first | exact List.Mem.head _ | apply List.Mem.tail)); rfl; rfl))) rfl (fun W hW => ⟨by first | rfl | (simp; done) | (simp_all; done), hW.below⟩)
                · clear q1 q2 q3 q9 q10 q11 s1 s2 s3 s9 s10 s11
                  repeat (first | refine l_val rfl rfl (by first | exact pureEval_ok rfl ) ?_ | refine l_nil ?_ | refine c_region ?_ | refine c_seq ?_ | refine x_then ?_ | refine c_dec_t rfl (by first | omega ) ?_ | refine c_ret ?_ | refine x_then_ret ?_ | refine l_dec_f rfl rfl rfl rfl rfl (by first | omega ) ?_ )
                  exact x_ret rfl rfl (by repeat (first | exact Res.nil | (apply Res.tmp; rfl) | (apply Res.cell; rfl; exact (by repeat (first | exact List.Mem.head _ | apply List.Mem.tail)); rfl; rfl))) rfl (fun W hW => ⟨by first | rfl | (simp; done) | (simp_all; done), hW.below⟩)
              · clear q1 q2 q3 q9 q10 q11 s1 s2 s3 s9 s10 s11
                repeat (first | refine l_val rfl rfl (by first | exact pureEval_ok rfl ) ?_ | refine l_nil ?_ | refine c_region ?_ | refine c_seq ?_ | refine x_then ?_ | refine l_skip rfl rfl ?_ | refine c_true rfl ?_ | refine c_ret ?_ | refine x_then_ret ?_ | refine l_dec_t rfl rfl rfl rfl rfl (by first | omega ) ?_ | refine l_dec_f rfl rfl rfl rfl rfl (by first | omega ) ?_ )
                exact x_ret rfl rfl (by repeat (first | exact Res.nil | (apply Res.tmp; rfl) | (apply Res.cell; rfl; exact (by repeat (first | exact List.Mem.head _ | apply List.Mem.tail)); rfl; rfl))) rfl (fun W hW => ⟨by first | rfl | (simp; done) | (simp_all; done), hW.below⟩)
            · clear q1 q2 q3 q9 q10 q11 s1 s2 s3 s9 s10 s11
              repeat (first | refine l_val rfl rfl (by first | exact pureEval_ok rfl ) ?_ | refine l_nil ?_ | refine c_region ?_ | refine c_seq ?_ | refine x_then ?_ | refine l_skip rfl rfl ?_ | refine c_true rfl ?_ | refine c_ret ?_ | refine x_then_ret ?_ | refine l_dec_t rfl rfl rfl rfl rfl (by first | omega ) ?_ | refine l_dec_f rfl rfl rfl rfl rfl (by first | omega ) ?_ )
              exact x_ret rfl rfl (by repeat (first | exact Res.nil | (apply Res.tmp; rfl) | (apply Res.cell; rfl; exact (by repeat (first | exact List.Mem.head _ | apply List.Mem.tail)); rfl; rfl))) rfl (fun W hW => ⟨by first | rfl | (simp; done) | (simp_all; done), hW.below⟩)
          · clear q1 q2 q3 q9 q10 q11 s1 s2 s3 s9 s10 s11
            repeat (first | refine l_val rfl rfl (by first | exact pureEval_ok rfl ) ?_ | refine l_nil ?_ | refine c_region ?_ | refine c_seq ?_ | refine x_then ?_ | refine l_skip rfl rfl ?_ | refine c_true rfl ?_ | refine c_ret ?_ | refine x_then_ret ?_ | refine l_dec_t rfl rfl rfl rfl rfl (by first | omega ) ?_ | refine l_dec_f rfl rfl rfl rfl rfl (by first | omega ) ?_ )
            exact x_ret rfl rfl (by repeat (first | exact Res.nil | (apply Res.tmp; rfl) | (apply Res.cell; rfl; exact (by repeat (first | exact List.Mem.head _ | apply List.Mem.tail)); rfl; rfl))) rfl (fun W hW => ⟨by first | rfl | (simp; done) | (simp_all; done), hW.below⟩)
        · clear q1 q2 q3 q9 q10 q11 s1 s2 s3 s9 s10 s11
          repeat (first | refine l_val rfl rfl (by first | exact pureEval_ok rfl ) ?_ | refine l_nil ?_ | refine c_region ?_ | refine c_seq ?_ | refine x_then ?_ | refine l_skip rfl rfl ?_ | refine c_true rfl ?_ | refine c_ret ?_ | refine x_then_ret ?_ | refine l_dec_t rfl rfl rfl rfl rfl (by first | omega ) ?_ )
          exact x_ret rfl rfl (by repeat (first | exact Res.nil | (apply Res.tmp; rfl) | (apply Res.cell; rfl; exact (by repeat (first | exact List.Mem.head _ | apply List.Mem.tail)); rfl; rfl))) rfl (fun W hW => ⟨by first | rfl | (simp; done) | (simp_all; done), hW.below⟩)
end R21
end Go.Proofs
