/- Intervals: products of the reference, fits, reached, walked. -/
import Derived.Test.YtfebhegaomdcoaaIvE
set_option linter.unusedSectionVars false
set_option linter.unusedVariables false
set_option linter.unusedSimpArgs false
namespace Go.Proofs
open Go.RowKit Go.Kin Go.Kin.Iv
namespace R21

theorem fit_quo {n m : Nat} (h : 0 < n) : m ≤ 1099511627776 / n ↔ n * m ≤ 1099511627776 := by rw [Nat.le_div_iff_mul_le h, Nat.mul_comm]
theorem Fits_calls (x y : Int) (w : World) (b1 : -1152921504606846976 ≤ x ∧ x ≤ 1152921504606846976) (b2 : -1152921504606846976 ≤ y ∧ y ≤ 1152921504606846976) :
    Calls Try.prog 34 ⟨[.int .i64 x, .int .i64 y]⟩ w fun e w' => e = .returned (.bool (fitB (x * y))) ∧ Below w.heap.size w w' := by
  refine fun_enter Try.func34 rfl Try.ntmps34 rfl rfl (satW_nil w) ?_
  by_cases h : x = 0
  · subst h
    repeat (first | refine l_val rfl rfl (by first | exact pureEval_ok rfl ) ?_ | refine l_nil ?_ | refine c_region ?_ | refine c_seq ?_ | refine x_then ?_ | refine l_skip rfl rfl ?_ | refine c_ret ?_ )
    refine x_ret rfl rfl (by repeat (first | exact Res.nil | (apply Res.tmp; rfl) | (apply Res.cell; rfl; exact (by repeat (first | exact List.Mem.head _ | apply List.Mem.tail)); rfl; rfl))) rfl (fun W hW => ⟨?_, hW.below⟩)
    simp [fitB]
  · repeat (first | refine l_val rfl rfl (by first | exact pureEval_ok rfl ) ?_ | refine l_nil ?_ | refine c_region ?_ | refine c_seq ?_ | refine x_then ?_ | refine l_dec_f rfl rfl rfl rfl rfl (by first | omega ) ?_ )
    refine r_call rfl rfl rfl (fun W hW => abs_calls y W (by omega) (by omega)) ?_
    repeat (first | refine l_val rfl rfl (by first | exact pureEval_ok rfl ) ?_ )
    refine r_call rfl rfl rfl (fun W hW => abs_calls x W (by omega) (by omega)) ?_
    have hx : 0 < x.natAbs := by omega
    have hq := fit_quo (m := y.natAbs) hx
    rw [← Int.natAbs_mul] at hq
    have hc : ((1099511627776 : Nat) : Int) / (x.natAbs : Int) = ((1099511627776 / x.natAbs : Nat) : Int) := (Int.natCast_ediv _ _).symm
    repeat (first | refine l_val rfl rfl (by first | exact pureEval_ok rfl | exact v_quo rfl rfl (by omega) (by omega) (by omega) ) ?_ | refine l_nil ?_ | refine x_then ?_ | refine c_ret ?_ )
    refine x_ret rfl rfl (by repeat (first | exact Res.nil | (apply Res.tmp; rfl) | (apply Res.cell; rfl; exact (by repeat (first | exact List.Mem.head _ | apply List.Mem.tail)); rfl; rfl))) rfl (fun W hW => ⟨?_, hW.below⟩)
    unfold fitB
    congr 2
    rw [show (1099511627776 : Int) / (x.natAbs : Int) = ((1099511627776 / x.natAbs : Nat) : Int) from hc]
    rw [decide_eq_decide, Int.ofNat_le, hq]

theorem reached_calls (n : Int) (A : Option Addr) (cap : Nat) (l : List Int) (w : World) (hl : l.length ≤ 1000) (hA : At w A 1 (l.map inE)) :
    Calls Try.prog 35 ⟨[.int .i64 n, .slice A l.length cap]⟩ w fun e w' => e = .returned (.bool (l.any fun x => decide (x = n))) ∧ Below w.heap.size w w' := by
  refine fun_enter Try.func35 rfl Try.ntmps35 rfl rfl (satW_nil w) ?_
  repeat (first | refine l_val rfl rfl (by first | exact pureEval_ok rfl ) ?_ | refine l_nil ?_ | refine c_region ?_ | refine c_seq ?_ | refine x_then ?_ | refine c_block ?_ )
  refine c_loop (ι := Nat) (fun k => k ≤ l.length ∧ (l.take k).any (fun x => decide (x = n)) = false) (fun k => [(0, .int .i64 n), (7, .slice A l.length cap), (8, .int .i64 l.length), (9, .int .i64 k)]) (fun _ => []) (fun k => l.length - k) 0 ⟨by omega, rfl⟩ (by repeat (first | exact EnvSub.nil | refine EnvSub.cons rfl (by first | rfl | (congr 1; done) | (exact congrArg (Value.int _) (by omega)) | (simp; done)) ?_)) (by repeat (first | exact MSub.nil | refine MSub.keep (by first | rfl | assumption) ?_ | refine MSub.drop ?_ | exact MSub.refl _)) ?_
  rintro k ⟨hk, hM⟩
  by_cases hlt : k < l.length
  · obtain ⟨p, hp⟩ : ∃ p, l[k]? = some p := ⟨_, List.getElem?_eq_getElem hlt⟩
    obtain ⟨b, o, rfl, hc⟩ := hA k (inE p) (by simp [hp])
    rw [Nat.mul_one] at hc
    have he : Ext w (base w) b (o + k) [.int .i64 p] := ext_of hc
    by_cases hv : p = n
    · have hyes : (l.any fun x => decide (x = n)) = true := List.any_eq_true.2 ⟨p, List.mem_of_getElem? hp, by simp [hv]⟩
      rw [hyes]
      repeat (first | refine l_val rfl rfl (by first | exact pureEval_ok rfl | exact v_load_ext0 rfl (by assumption) rfl (by rfl) | exact v_index rfl rfl rfl rfl (by omega) (by omega) (by with_reducible first | exact idx2 _ _  ) ) ?_ | refine l_nil ?_ | refine c_region ?_ | refine c_seq ?_ | refine x_then ?_ | refine c_dec_t rfl (by first | omega ) ?_ | refine c_block ?_ | refine c_skip ?_ | refine c_ret ?_ | refine x_then_ret ?_ | refine x_block_ret ?_ )
      exact x_ret rfl rfl (by repeat (first | exact Res.nil | (apply Res.tmp; rfl) | (apply Res.cell; rfl; exact (by repeat (first | exact List.Mem.head _ | apply List.Mem.tail)); rfl; rfl))) rfl (fun W hW => ⟨rfl, hW.below⟩)
    · repeat (first | refine l_val rfl rfl (by first | exact v_add rfl rfl (by omega) (by omega) | exact pureEval_ok rfl | exact v_load_ext0 rfl (by assumption) rfl (by rfl) | exact v_index rfl rfl rfl rfl (by omega) (by omega) (by with_reducible first | exact idx2 _ _  ) ) ?_ | refine l_nil ?_ | refine c_region ?_ | refine c_seq ?_ | refine x_then ?_ | refine c_dec_t rfl (by first | omega ) ?_ | refine c_dec_f rfl (by first | omega ) ?_ | refine c_block ?_ | refine c_skip ?_ | refine x_block ?_ )
      refine x_back (k + 1) ⟨hlt, ?_⟩ (by omega) (by repeat (first | exact EnvSub.nil | refine EnvSub.cons rfl (by first | rfl | (congr 1; done) | (exact congrArg (Value.int _) (by omega)) | (simp; done)) ?_)) (by repeat (first | exact MSub.nil | refine MSub.keep (by first | rfl | assumption) ?_ | refine MSub.drop ?_ | exact MSub.refl _))
      rw [List.take_add_one, hp, List.any_append, hM]
      simp [hv]
  · have hkl : k = l.length := by omega
    subst hkl
    rw [List.take_length] at hM
    rw [hM]
    repeat (first | refine l_val rfl rfl (by first | exact pureEval_ok rfl ) ?_ | refine l_nil ?_ | refine c_region ?_ | refine c_seq ?_ | refine x_then ?_ | refine c_dec_f rfl (by first | omega ) ?_ | refine c_ret ?_ | refine c_exit ?_ | refine x_then_exit ?_ | refine x_block_same ?_ )
    exact x_ret rfl rfl (by repeat (first | exact Res.nil | (apply Res.tmp; rfl) | (apply Res.cell; rfl; exact (by repeat (first | exact List.Mem.head _ | apply List.Mem.tail)); rfl; rfl))) rfl (fun W hW => ⟨rfl, hW.below⟩)
theorem rMul_calls (a b c d : Int) (w : World) : Calls Try.prog 18 ⟨[.agg ⟨rgE a b⟩, .agg ⟨rgE c d⟩]⟩ w fun e w' => e = .returned (muV a b c d) ∧ Below w.heap.size w w' := by
  refine fun_enter Try.func18 rfl Try.ntmps18 rfl rfl (satW_nil w) ?_
  repeat (first | refine l_val rfl rfl (by first | exact pureEval_ok rfl | exact v_load rfl (by repeat (first | exact List.Mem.head _ | apply List.Mem.tail)) rfl (by rfl) ) ?_ | refine l_nil ?_ | refine c_region ?_ | refine c_seq ?_ | refine x_then ?_ | refine r_box rfl rfl rfl rfl (fun _ => ?_) | refine r_alloc rfl rfl rfl (by first | exact aggL ) (fun _ => ?_) )
  refine r_call rfl rfl rfl (fun W hW => rValid_calls a b W) ?_
  cases h1 : vB a b with
  | true =>
    repeat (first | refine l_val rfl rfl (by first | exact pureEval_ok rfl | exact v_load rfl (by repeat (first | exact List.Mem.head _ | apply List.Mem.tail)) rfl (by rfl) ) ?_ )
    refine r_call rfl rfl rfl (fun W hW => rValid_calls c d W) ?_
    cases h2 : vB c d with
    | true =>
      have h : (vB a b && vB c d) = true := by rw [h1, h2]; rfl
      obtain ⟨g1, g2, g3⟩ := vB_iff.1 h1
      obtain ⟨k1, k2, k3⟩ := vB_iff.1 h2
      have hno : ∀ p, p ∈ prods a b c d → fitB p = false → muK a b c d = false := fun p hp hf => by
        unfold muK; rw [List.all_eq_false]; exact ⟨p, hp, by rw [hf]; decide⟩
      repeat (first | refine l_val rfl rfl (by first | exact pureEval_ok rfl | exact v_load rfl (by repeat (first | exact List.Mem.head _ | apply List.Mem.tail)) rfl (by rfl) ) ?_ | refine l_nil ?_ | refine c_region ?_ | refine c_seq ?_ | refine x_then ?_ | refine c_false rfl ?_ | refine c_skip ?_ )
      refine r_call rfl rfl rfl (fun W hW => Fits_calls a c W (by omega) (by omega)) ?_
      cases f1 : fitB (a * c) with
      | false =>
        rw [mu_no h (hno _ (by simp [prods]) f1)]
        repeat (first | refine l_val rfl rfl (by first | exact pureEval_ok rfl | exact v_build rfl rfl (by rfl) ) ?_ | refine l_nil ?_ | refine c_region ?_ | refine c_seq ?_ | refine x_then ?_ | refine l_skip rfl rfl ?_ | refine r_store rfl rfl rfl rfl rfl rfl rfl (by repeat (first | exact Upd.head | apply Upd.tail)) (by rfl) ?_ | refine c_true rfl ?_ | refine c_ret ?_ | refine x_then_ret ?_ )
        exact x_ret rfl rfl (by repeat (first | exact Res.nil | (apply Res.tmp; rfl) | (apply Res.cell; rfl; exact (by repeat (first | exact List.Mem.head _ | apply List.Mem.tail)); rfl; rfl))) rfl (fun W hW => ⟨rfl, hW.below⟩)
      | true =>
        repeat (first | refine l_val rfl rfl (by first | exact pureEval_ok rfl | exact v_load rfl (by repeat (first | exact List.Mem.head _ | apply List.Mem.tail)) rfl (by rfl) ) ?_ )
        refine r_call rfl rfl rfl (fun W hW => Fits_calls a d W (by omega) (by omega)) ?_
        cases f2 : fitB (a * d) with
        | false =>
          rw [mu_no h (hno _ (by simp [prods]) f2)]
          repeat (first | refine l_val rfl rfl (by first | exact pureEval_ok rfl | exact v_build rfl rfl (by rfl) ) ?_ | refine l_nil ?_ | refine c_region ?_ | refine c_seq ?_ | refine x_then ?_ | refine l_skip rfl rfl ?_ | refine r_store rfl rfl rfl rfl rfl rfl rfl (by repeat (first | exact Upd.head | apply Upd.tail)) (by rfl) ?_ | refine c_true rfl ?_ | refine c_ret ?_ | refine x_then_ret ?_ )
          exact x_ret rfl rfl (by repeat (first | exact Res.nil | (apply Res.tmp; rfl) | (apply Res.cell; rfl; exact (by repeat (first | exact List.Mem.head _ | apply List.Mem.tail)); rfl; rfl))) rfl (fun W hW => ⟨rfl, hW.below⟩)
        | true =>
          repeat (first | refine l_val rfl rfl (by first | exact pureEval_ok rfl | exact v_load rfl (by repeat (first | exact List.Mem.head _ | apply List.Mem.tail)) rfl (by rfl) ) ?_ )
          refine r_call rfl rfl rfl (fun W hW => Fits_calls b c W (by omega) (by omega)) ?_
          cases f3 : fitB (b * c) with
          | false =>
            rw [mu_no h (hno _ (by simp [prods]) f3)]
            repeat (first | refine l_val rfl rfl (by first | exact pureEval_ok rfl | exact v_build rfl rfl (by rfl) ) ?_ | refine l_nil ?_ | refine c_region ?_ | refine c_seq ?_ | refine x_then ?_ | refine l_skip rfl rfl ?_ | refine r_store rfl rfl rfl rfl rfl rfl rfl (by repeat (first | exact Upd.head | apply Upd.tail)) (by rfl) ?_ | refine c_true rfl ?_ | refine c_ret ?_ | refine x_then_ret ?_ )
            exact x_ret rfl rfl (by repeat (first | exact Res.nil | (apply Res.tmp; rfl) | (apply Res.cell; rfl; exact (by repeat (first | exact List.Mem.head _ | apply List.Mem.tail)); rfl; rfl))) rfl (fun W hW => ⟨rfl, hW.below⟩)
          | true =>
            repeat (first | refine l_val rfl rfl (by first | exact pureEval_ok rfl | exact v_load rfl (by repeat (first | exact List.Mem.head _ | apply List.Mem.tail)) rfl (by rfl) ) ?_ )
            refine r_call rfl rfl rfl (fun W hW => Fits_calls b d W (by omega) (by omega)) ?_
            cases f4 : fitB (b * d) with
            | false =>
              rw [mu_no h (hno _ (by simp [prods]) f4)]
              repeat (first | refine l_val rfl rfl (by first | exact pureEval_ok rfl | exact v_build rfl rfl (by rfl) ) ?_ | refine l_nil ?_ | refine c_region ?_ | refine c_seq ?_ | refine x_then ?_ | refine r_store rfl rfl rfl rfl rfl rfl rfl (by repeat (first | exact Upd.head | apply Upd.tail)) (by rfl) ?_ | refine c_true rfl ?_ | refine c_ret ?_ | refine x_then_ret ?_ )
              exact x_ret rfl rfl (by repeat (first | exact Res.nil | (apply Res.tmp; rfl) | (apply Res.cell; rfl; exact (by repeat (first | exact List.Mem.head _ | apply List.Mem.tail)); rfl; rfl))) rfl (fun W hW => ⟨rfl, hW.below⟩)
            | true =>
              have hK : muK a b c d = true := by simp [muK, prods, f1, f2, f3, f4]
              obtain ⟨n1, n2, n3, n4⟩ := muK_iff.1 hK
              rw [mu_yes h hK]
              repeat (first | refine l_val rfl rfl (by first | exact v_mul rfl rfl (by omega) (by omega) | exact pureEval_ok rfl | exact v_load rfl (by repeat (first | exact List.Mem.head _ | apply List.Mem.tail)) rfl (by rfl) | exact v_build rfl rfl (by rfl) | exact v_min4 rfl rfl rfl rfl | exact v_max4 rfl rfl rfl rfl ) ?_ | refine l_nil ?_ | refine c_region ?_ | refine c_seq ?_ | refine x_then ?_ | refine r_store rfl rfl rfl rfl rfl rfl rfl (by repeat (first | exact Upd.head | apply Upd.tail)) (by rfl) ?_ | refine c_false rfl ?_ | refine c_skip ?_ | refine c_ret ?_ )
              exact x_ret rfl rfl (by repeat (first | exact Res.nil | (apply Res.tmp; rfl) | (apply Res.cell; rfl; exact (by repeat (first | exact List.Mem.head _ | apply List.Mem.tail)); rfl; rfl))) rfl (fun W hW => ⟨rfl, hW.below⟩)
    | false =>
      rw [mu_bad (by rw [h1, h2]; rfl)]
      repeat (first | refine l_val rfl rfl (by first | exact pureEval_ok rfl | exact v_build rfl rfl (by rfl) ) ?_ | refine l_nil ?_ | refine c_region ?_ | refine c_seq ?_ | refine x_then ?_ | refine r_store rfl rfl rfl rfl rfl rfl rfl (by repeat (first | exact Upd.head | apply Upd.tail)) (by rfl) ?_ | refine c_true rfl ?_ | refine c_ret ?_ | refine x_then_ret ?_ )
      exact x_ret rfl rfl (by repeat (first | exact Res.nil | (apply Res.tmp; rfl) | (apply Res.cell; rfl; exact (by repeat (first | exact List.Mem.head _ | apply List.Mem.tail)); rfl; rfl))) rfl (fun W hW => ⟨rfl, hW.below⟩)
  | false =>
    rw [mu_bad (by rw [h1]; rfl)]
    repeat (first | refine l_val rfl rfl (by first | exact pureEval_ok rfl | exact v_load rfl (by repeat (first | exact List.Mem.head _ | apply List.Mem.tail)) rfl (by rfl) | exact v_build rfl rfl (by rfl) ) ?_ | refine l_nil ?_ | refine c_region ?_ | refine c_seq ?_ | refine x_then ?_ | refine l_skip rfl rfl ?_ | refine r_store rfl rfl rfl rfl rfl rfl rfl (by repeat (first | exact Upd.head | apply Upd.tail)) (by rfl) ?_ | refine c_true rfl ?_ | refine c_ret ?_ | refine x_then_ret ?_ )
    exact x_ret rfl rfl (by repeat (first | exact Res.nil | (apply Res.tmp; rfl) | (apply Res.cell; rfl; exact (by repeat (first | exact List.Mem.head _ | apply List.Mem.tail)); rfl; rfl))) rfl (fun W hW => ⟨rfl, hW.below⟩)
end R21
end Go.Proofs
