/- Intervals: products with ratios are rounded outwards, and contain what was scaled when taken back; walked. -/
import Derived.Test.YtfebhegaomdcoaaIvSp
set_option linter.unusedSectionVars false
set_option linter.unusedVariables false
set_option linter.unusedSimpArgs false
namespace Go.Proofs
open Go.RowKit Go.Kin Go.Kin.Iv
namespace R21

theorem sc_sp (a b N D : Int) : ∃ l h e, scV a b N D = tup l h e ∧ Hid ((e = 0 ∧ (vB a b = true ∧ R12.okB N D = true) ∧ l = scLo a b N D ∧ h = scHi a b N D ∧ vB l h = true) ∨ (e ≠ 0 ∧ l = 0 ∧ h = 0 ∧ (vB a b = true → R12.okB N D = true → e = 2))) := by
  cases h1 : vB a b with
  | false => exact ⟨0, 0, 210, sc_bad h1, Lib.hid (.inr ⟨by decide, rfl, rfl, fun h => by cases h⟩)⟩
  | true =>
    cases h2 : R12.okB N D with
    | false => exact ⟨0, 0, 120, sc_rat h1 h2, Lib.hid (.inr ⟨by decide, rfl, rfl, fun _ h => by cases h⟩)⟩
    | true =>
      cases h3 : vB (scLo a b N D) (scHi a b N D) with
      | true => exact ⟨_, _, 0, (sc_ok h1 h2).trans (rs_yes h3), Lib.hid (.inl ⟨rfl, ⟨rfl, rfl⟩, rfl, rfl, h3⟩)⟩
      | false => exact ⟨0, 0, 2, (sc_ok h1 h2).trans (rs_no h3), Lib.hid (.inr ⟨by decide, rfl, rfl, fun _ _ => rfl⟩)⟩
/-- the ends, and the products -/
theorem sc_ends {a b N D : Int} (hD : 0 < D) : scLo a b N D * D ≤ min (N * a) (N * b) ∧ min (N * a) (N * b) < scLo a b N D * D + D ∧ max (N * a) (N * b) ≤ scHi a b N D * D ∧ scHi a b N D * D < max (N * a) (N * b) + D := by
  have a1 := fl_lo a N hD
  have a2 := fl_hi a N hD
  have b1 := fl_lo b N hD
  have b2 := fl_hi b N hD
  have c1 := ce_hi a N hD
  have c2 := ce_lo a N hD
  have d1 := ce_hi b N hD
  have d2 := ce_lo b N hD
  rw [Int.mul_comm a N] at a1 a2 c1 c2
  rw [Int.mul_comm b N] at b1 b2 d1 d2
  rw [Int.add_mul] at a2 b2
  rw [Int.sub_mul] at c2 d2
  have m1 : ∀ p q : Int, p ≤ q → p * D ≤ q * D := fun p q h => Int.mul_le_mul_of_nonneg_right h (by omega)
  unfold scLo scHi
  generalize fl a N D = x at *
  generalize fl b N D = y at *
  generalize ce a N D = u at *
  generalize ce b N D = v at *
  rcases Int.le_total x y with hxy | hxy <;> rcases Int.le_total u v with huv | huv <;> have e1 := m1 _ _ hxy <;> have e2 := m1 _ _ huv
  · rw [Int.min_eq_left hxy, Int.max_eq_right huv]; omega
  · rw [Int.min_eq_left hxy, Int.max_eq_left huv]; omega
  · rw [Int.min_eq_right hxy, Int.max_eq_right huv]; omega
  · rw [Int.min_eq_right hxy, Int.max_eq_left huv]; omega
theorem back_pos {a b N D L H : Int} (hN : 0 < N) (h1 : L * D ≤ N * a) (h2 : N * b ≤ H * D) : scLo L H D N ≤ a ∧ b ≤ scHi L H D N := by
  have x1 : fl L D N ≤ a := le_of_mul hN (by have := fl_lo L D hN; rw [Int.add_mul, Int.mul_comm a N]; omega)
  have x2 : b ≤ ce H D N := le_of_mul hN (by have := ce_hi H D hN; rw [Int.add_mul, Int.mul_comm b N]; omega)
  unfold scLo scHi; omega
theorem back_neg {a b N D L H : Int} (hN : N < 0) (h1 : L * D ≤ N * b) (h2 : N * a ≤ H * D) : scLo L H (-D) (-N) ≤ a ∧ b ≤ scHi L H (-D) (-N) := by
  have hN' : 0 < -N := by omega
  have x1 : fl H (-D) (-N) ≤ a := le_of_mul hN' (by have := fl_lo H (-D) hN'; rw [Int.mul_neg H D] at this; rw [Int.add_mul, Int.mul_neg a N, Int.mul_comm a N]; omega)
  have x2 : b ≤ ce L (-D) (-N) := le_of_mul hN' (by have := ce_hi L (-D) hN'; rw [Int.mul_neg L D] at this; rw [Int.add_mul, Int.mul_neg b N, Int.mul_comm b N]; omega)
  unfold scLo scHi; omega
/-- a quotient toward zero -/
theorem tq {m L D : Int} (hD : 0 < D) (h1 : L * D ≤ m) (h2 : m < L * D + D) : m.tdiv D = L ∨ m.tdiv D = L + 1 := by
  have h := floor_eq m hD
  have : m / D = L := div_uniq hD h1 (by rw [Int.add_mul]; omega)
  rw [this] at h
  split at h <;> omega
theorem tq' {M H D : Int} (hD : 0 < D) (h1 : M ≤ H * D) (h2 : H * D < M + D) : M.tdiv D = H ∨ M.tdiv D = H - 1 := by
  have := tq (m := -M) (L := -H) hD (by rw [Int.neg_mul]; omega) (by rw [Int.neg_mul]; omega)
  rw [Int.neg_tdiv] at this
  omega
theorem ok_back {N D : Int} (h : R12.okB N D = true) : (0 < N → R12.okB D N = true) ∧ (N < 0 → R12.okB (-D) (-N) = true) := by
  obtain ⟨k1, k2, k3, k4, k5⟩ := R12.okB_iff.1 h
  rw [Nat.gcd_comm] at k5
  exact ⟨fun hN => R12.okB_iff.2 ⟨by omega, by omega, by omega, by omega, k5⟩, fun hN => R12.okB_iff.2 ⟨by omega, by omega, by omega, by omega, by rw [Int.natAbs_neg, Int.natAbs_neg]; exact k5⟩⟩
set_option maxRecDepth 100000 in
set_option maxHeartbeats 8000000 in
theorem intervalScaled_calls (a b N D : Int) (w : World) (n1 : -9223372036854775808 ≤ N) (n2 : N ≤ 9223372036854775807) (d1 : -9223372036854775808 ≤ D) (d2 : D ≤ 9223372036854775807) :
    Calls Try.prog 8 ⟨[.agg ⟨rgE a b⟩, .agg ⟨raE N D⟩]⟩ w fun e w' => e = .returned (.bool true) ∧ Below w.heap.size w w' := by
  refine fun_enter Try.func8 rfl Try.ntmps8 rfl rfl (satW_nil w) ?_
  repeat (first | refine l_val rfl rfl (by first | exact pureEval_ok rfl ) ?_ | refine l_nil ?_ | refine c_region ?_ | refine c_seq ?_ | refine x_then ?_ | refine r_box rfl rfl rfl rfl (fun _ => ?_) )
  refine r_call rfl rfl rfl (fun W hW => sane_calls W) ?_
  repeat (first | refine l_val rfl rfl (by first | exact pureEval_ok rfl | exact v_load rfl (by repeat (first | exact List.Mem.head _ | apply List.Mem.tail)) rfl (by rfl) ) ?_ | refine l_nil ?_ | refine c_region ?_ | refine c_seq ?_ | refine x_then ?_ | refine c_false rfl ?_ | refine c_skip ?_ )
  refine r_call rfl rfl rfl (fun W hW => Scale_calls a b N D W n1 n2 d1 d2) ?_
  obtain ⟨L, H, e, q, s⟩ := sc_sp a b N D
  rw [q]
  clear q
  rcases s.out with ⟨rfl, ⟨v1, v2⟩, s1, s2, v3⟩ | ⟨s1, rfl, rfl, _⟩
  · by_cases c1 : a < -1073741824
    · repeat (first | refine l_val rfl rfl (by first | exact pureEval_ok rfl | exact v_load rfl (by repeat (first | exact List.Mem.head _ | apply List.Mem.tail)) rfl (by rfl) | exact v_build rfl rfl (by rfl) ) ?_ | refine l_nil ?_ | refine c_region ?_ | refine c_seq ?_ | refine x_then ?_ | refine l_skip rfl rfl ?_ | refine r_alloc rfl rfl rfl (by first | exact aggL ) (fun _ => ?_) | refine r_store rfl rfl rfl rfl rfl rfl rfl (by repeat (first | exact Upd.head | apply Upd.tail)) (by rfl) ?_ | refine c_true rfl ?_ | refine c_ret ?_ | refine x_then_ret ?_ | refine l_dec_t rfl rfl rfl rfl rfl (by first | omega ) ?_ )
      exact x_ret rfl rfl (by repeat (first | exact Res.nil | (apply Res.tmp; rfl) | (apply Res.cell; rfl; exact (by repeat (first | exact List.Mem.head _ | apply List.Mem.tail)); rfl; rfl))) rfl (fun W hW => ⟨by first | rfl | (simp; done) | (simp_all; done), hW.below⟩)
    · by_cases c2 : 1073741824 < b
      · repeat (first | refine l_val rfl rfl (by first | exact pureEval_ok rfl | exact v_load rfl (by repeat (first | exact List.Mem.head _ | apply List.Mem.tail)) rfl (by rfl) | exact v_build rfl rfl (by rfl) ) ?_ | refine l_nil ?_ | refine c_region ?_ | refine c_seq ?_ | refine x_then ?_ | refine l_skip rfl rfl ?_ | refine r_alloc rfl rfl rfl (by first | exact aggL ) (fun _ => ?_) | refine r_store rfl rfl rfl rfl rfl rfl rfl (by repeat (first | exact Upd.head | apply Upd.tail)) (by rfl) ?_ | refine c_dec_t rfl (by first | omega ) ?_ | refine c_ret ?_ | refine x_then_ret ?_ | refine l_dec_f rfl rfl rfl rfl rfl (by first | omega ) ?_ )
        exact x_ret rfl rfl (by repeat (first | exact Res.nil | (apply Res.tmp; rfl) | (apply Res.cell; rfl; exact (by repeat (first | exact List.Mem.head _ | apply List.Mem.tail)); rfl; rfl))) rfl (fun W hW => ⟨by first | rfl | (simp; done) | (simp_all; done), hW.below⟩)
      · obtain ⟨g1, g2, g3⟩ := vB_iff.1 v1
        obtain ⟨l1, l2, l3⟩ := vB_iff.1 v3
        obtain ⟨k1, k2, k3, k4, k5⟩ := R12.okB_iff.1 v2
        have hD : 0 < D := by omega
        obtain ⟨t1, t2, t3, t4⟩ := sc_ends (a := a) (b := b) (N := N) hD
        rw [← s1] at t1 t2
        rw [← s2] at t3 t4
        obtain ⟨bk1, bk2⟩ := ok_back v2
        have z0 : N = 0 → L = 0 ∧ H = 0 := fun hz => by
          subst hz
          rw [s1, s2]
          unfold scLo scHi fl ce
          simp
        clear s1 s2 k5
        obtain ⟨p1, p2⟩ := mul_le_abs (x := N) (y := a) (K := 1073741824) (L := 1073741824) (by omega) (by omega) (by omega) (by omega)
        obtain ⟨p3, p4⟩ := mul_le_abs (x := N) (y := b) (K := 1073741824) (L := 1073741824) (by omega) (by omega) (by omega) (by omega)
        simp only [show (1073741824 : Int) * 1073741824 = 1152921504606846976 by decide] at p1 p2 p3 p4
        obtain ⟨m, hm⟩ : ∃ m, min (N * a) (N * b) = m := ⟨_, rfl⟩
        obtain ⟨M, hM⟩ : ∃ M, max (N * a) (N * b) = M := ⟨_, rfl⟩
        have r1 := tq hD (by omega) (show min (N * a) (N * b) < L * D + D by omega)
        have r2 := tq' hD (show max (N * a) (N * b) ≤ H * D by omega) (by omega)
        rw [hm] at t1 t2 r1
        rw [hM] at t3 t4 r2
        have q1 : IntKind.i64.wrap (m.tdiv D) = m.tdiv D := wrap_i64 (by omega) (by omega)
        have q2 : IntKind.i64.wrap (M.tdiv D) = M.tdiv D := wrap_i64 (by omega) (by omega)
        have bm : -1152921504606846976 ≤ m ∧ m ≤ 1152921504606846976 := by omega
        have bM : -1152921504606846976 ≤ M ∧ M ≤ 1152921504606846976 := by omega
        repeat ((fail_if_success refine c_probe (id := 9) ?_); (fail_if_success refine c_probe1 (id := 9) ?_); first | refine l_val rfl rfl (by first | exact pureEval_ok rfl | exact v_load rfl (by repeat (first | exact List.Mem.head _ | apply List.Mem.tail)) rfl (by rfl) ) ?_ | refine l_nil ?_ | refine c_region ?_ | refine c_seq ?_ | refine x_then ?_ | refine r_alloc rfl rfl rfl (by first | exact aggL ) (fun _ => ?_) | refine r_store rfl rfl rfl rfl rfl rfl rfl (by repeat (first | exact Upd.head | apply Upd.tail)) (by rfl) ?_ | refine c_dec_f rfl (by first | omega ) ?_ | refine c_skip ?_ | refine l_dec_f rfl rfl rfl rfl rfl (by first | omega ) ?_ | refine c_reads rfl (by decide +kernel) ?_ | refine q_val rfl rfl (by first | exact v_mul rfl rfl (by omega) (by omega) | exact pureEval_ok rfl | exact v_load rfl (by repeat (first | exact List.Mem.head _ | apply List.Mem.tail)) rfl (by rfl) ) ?_ | refine q_nil ?_ )
        rw [hm, hM]
        obtain ⟨t, ht⟩ : ∃ t, m.tdiv D = t := ⟨_, rfl⟩
        obtain ⟨u, hu⟩ : ∃ u, M.tdiv D = u := ⟨_, rfl⟩
        rw [ht] at r1
        rw [hu] at r2
        have q3 : IntKind.i64.wrap (m.tdiv D) = t := q1.trans ht
        have q4 : IntKind.i64.wrap (M.tdiv D) = u := q2.trans hu
        clear q1 q2 ht hu
        by_cases hz : N = 0
        · obtain ⟨rfl, rfl⟩ := z0 hz
          clear z0 bk1 bk2
          repeat (first | refine l_val rfl rfl (by first | exact pureEval_ok rfl | exact v_load rfl (by repeat (first | exact List.Mem.head _ | apply List.Mem.tail)) rfl (by rfl) | exact v_build rfl rfl (by rfl) | exact v_eqS rfl rfl rfl rfl ) ?_ | refine l_nil ?_ | refine c_region ?_ | refine c_seq ?_ | refine x_then ?_ | refine c_dec_t rfl (by first | omega ) ?_ | refine c_dec_f rfl (by first | omega ) ?_ | refine c_skip ?_ | refine c_ret ?_ | refine x_then_ret ?_ | refine l_dec_f rfl rfl rfl rfl rfl (by first | omega ) ?_ | refine c_reads rfl (by decide +kernel) ?_ | refine q_val rfl rfl (by first | exact v_add rfl rfl (by omega) (by omega) | exact v_sub rfl rfl (by omega) (by omega) | exact v_mul rfl rfl (by omega) (by omega) | exact pureEval_ok rfl | exact v_load rfl (by repeat (first | exact List.Mem.head _ | apply List.Mem.tail)) rfl (by rfl) | exact v_quoA rfl rfl (by omega) (by assumption) ) ?_ | refine q_nil ?_ | refine q_dec_f rfl rfl rfl rfl (by first | omega ) ?_ )
          exact x_ret rfl rfl (by repeat (first | exact Res.nil | (apply Res.tmp; rfl) | (apply Res.cell; rfl; exact (by repeat (first | exact List.Mem.head _ | apply List.Mem.tail)); rfl; rfl))) rfl (fun W hW => ⟨by first | rfl | (simp; done) | (simp_all; done), hW.below⟩)
        · by_cases hn : N < 0
          · have hk := bk2 hn
            have hb := back_neg (a := a) (b := b) (D := D) (L := L) (H := H) hn (by omega) (by omega)
            obtain ⟨l', h', f, q, s⟩ := sc_sp L H (-D) (-N)
            clear z0 bk1 bk2
            repeat ((fail_if_success refine c_probe (id := 14) ?_); (fail_if_success refine c_probe1 (id := 14) ?_); first | refine l_val rfl rfl (by first | exact pureEval_ok rfl | exact v_load rfl (by repeat (first | exact List.Mem.head _ | apply List.Mem.tail)) rfl (by rfl) ) ?_ | refine l_nil ?_ | refine c_region ?_ | refine c_seq ?_ | refine x_then ?_ | refine c_dec_f rfl (by first | omega ) ?_ | refine c_skip ?_ | refine l_dec_f rfl rfl rfl rfl rfl (by first | omega ) ?_ | refine c_reads rfl (by decide +kernel) ?_ | refine q_val rfl rfl (by first | exact v_add rfl rfl (by omega) (by omega) | exact v_sub rfl rfl (by omega) (by omega) | exact v_mul rfl rfl (by omega) (by omega) | exact pureEval_ok rfl | exact v_load rfl (by repeat (first | exact List.Mem.head _ | apply List.Mem.tail)) rfl (by rfl) | exact v_quoA rfl rfl (by omega) (by assumption) ) ?_ | refine q_nil ?_ | refine q_dec_f rfl rfl rfl rfl (by first | omega ) ?_ )
            refine c_keep [2, 3, 5] rfl ?_
            repeat (first | refine l_val rfl rfl (by first | exact v_neg rfl (by omega) (by omega) | exact pureEval_ok rfl | exact v_load rfl (by repeat (first | exact List.Mem.head _ | apply List.Mem.tail)) rfl (by rfl) | exact v_build rfl rfl (by rfl) ) ?_ | refine l_nil ?_ | refine c_region ?_ | refine c_seq ?_ | refine x_then ?_ | refine r_alloc rfl rfl rfl (by first | exact aggL ) (fun _ => ?_) | refine r_store rfl rfl rfl rfl rfl rfl rfl (by repeat (first | exact Upd.head | apply Upd.tail)) (by rfl) ?_ | refine c_dec_t rfl (by first | omega ) ?_ | refine c_dec_f rfl (by first | omega ) ?_ | refine c_skip ?_ )
            refine r_call rfl rfl rfl (fun W hW => Scale_calls L H (-D) (-N) W (by omega) (by omega) (by omega) (by omega)) ?_
            rw [q]
            rcases s.out with ⟨rfl, _, rfl, rfl, v4⟩ | ⟨s1, rfl, rfl, s2⟩
            · repeat (first | refine l_val rfl rfl (by first | exact pureEval_ok rfl | exact v_load rfl (by repeat (first | exact List.Mem.head _ | apply List.Mem.tail)) rfl (by rfl) ) ?_ | refine l_nil ?_ | refine c_region ?_ | refine c_seq ?_ | refine x_then ?_ | refine r_alloc rfl rfl rfl (by first | exact aggL ) (fun _ => ?_) | refine r_store rfl rfl rfl rfl rfl rfl rfl (by repeat (first | exact Upd.head | apply Upd.tail)) (by rfl) ?_ | refine c_false rfl ?_ | refine c_skip ?_ )
              refine r_call rfl rfl rfl (fun W hW => Inside_calls a b (scLo L H (-D) (-N)) (scHi L H (-D) (-N)) W) ?_
              rw [in_yes v1 v4 hb.1 hb.2]
              repeat (first | refine l_val rfl rfl (by first | exact pureEval_ok rfl ) ?_ | refine l_nil ?_ | refine c_region ?_ | refine c_seq ?_ | refine x_then ?_ | refine c_ret ?_ )
              exact x_ret rfl rfl (by repeat (first | exact Res.nil | (apply Res.tmp; rfl) | (apply Res.cell; rfl; exact (by repeat (first | exact List.Mem.head _ | apply List.Mem.tail)); rfl; rfl))) rfl (fun W hW => ⟨by first | rfl | (simp; done) | (simp_all; done), hW.below⟩)
            · have := s2 v3 hk
              clear s2
              repeat (first | refine l_val rfl rfl (by first | exact pureEval_ok rfl ) ?_ | refine l_nil ?_ | refine c_region ?_ | refine c_seq ?_ | refine x_then ?_ | refine r_alloc rfl rfl rfl (by first | exact aggL ) (fun _ => ?_) | refine r_store rfl rfl rfl rfl rfl rfl rfl (by repeat (first | exact Upd.head | apply Upd.tail)) (by rfl) ?_ | refine c_dec_t rfl (by first | omega ) ?_ | refine c_ret ?_ | refine x_then_ret ?_ )
              exact x_ret rfl rfl (by repeat (first | exact Res.nil | (apply Res.tmp; rfl) | (apply Res.cell; rfl; exact (by repeat (first | exact List.Mem.head _ | apply List.Mem.tail)); rfl; rfl))) rfl (fun W hW => ⟨by first | rfl | (simp; done) | (simp_all; done), hW.below⟩)
          · have hk := bk1 (by omega)
            have hb := back_pos (a := a) (b := b) (D := D) (L := L) (H := H) (show 0 < N by omega) (by omega) (by omega)
            obtain ⟨l', h', f, q, s⟩ := sc_sp L H D N
            clear z0 bk1 bk2
            repeat ((fail_if_success refine c_probe (id := 14) ?_); (fail_if_success refine c_probe1 (id := 14) ?_); first | refine l_val rfl rfl (by first | exact pureEval_ok rfl | exact v_load rfl (by repeat (first | exact List.Mem.head _ | apply List.Mem.tail)) rfl (by rfl) ) ?_ | refine l_nil ?_ | refine c_region ?_ | refine c_seq ?_ | refine x_then ?_ | refine c_dec_f rfl (by first | omega ) ?_ | refine c_skip ?_ | refine l_dec_f rfl rfl rfl rfl rfl (by first | omega ) ?_ | refine c_reads rfl (by decide +kernel) ?_ | refine q_val rfl rfl (by first | exact v_add rfl rfl (by omega) (by omega) | exact v_sub rfl rfl (by omega) (by omega) | exact v_mul rfl rfl (by omega) (by omega) | exact pureEval_ok rfl | exact v_load rfl (by repeat (first | exact List.Mem.head _ | apply List.Mem.tail)) rfl (by rfl) | exact v_quoA rfl rfl (by omega) (by assumption) ) ?_ | refine q_nil ?_ | refine q_dec_f rfl rfl rfl rfl (by first | omega ) ?_ )
            refine c_keep [2, 3, 5] rfl ?_
            repeat (first | refine l_val rfl rfl (by first | exact pureEval_ok rfl | exact v_load rfl (by repeat (first | exact List.Mem.head _ | apply List.Mem.tail)) rfl (by rfl) | exact v_build rfl rfl (by rfl) ) ?_ | refine l_nil ?_ | refine c_region ?_ | refine c_seq ?_ | refine x_then ?_ | refine r_alloc rfl rfl rfl (by first | exact aggL ) (fun _ => ?_) | refine r_store rfl rfl rfl rfl rfl rfl rfl (by repeat (first | exact Upd.head | apply Upd.tail)) (by rfl) ?_ | refine c_dec_f rfl (by first | omega ) ?_ | refine c_skip ?_ )
            refine r_call rfl rfl rfl (fun W hW => Scale_calls L H D N W (by omega) (by omega) (by omega) (by omega)) ?_
            rw [q]
            rcases s.out with ⟨rfl, _, rfl, rfl, v4⟩ | ⟨s1, rfl, rfl, s2⟩
            · repeat (first | refine l_val rfl rfl (by first | exact pureEval_ok rfl | exact v_load rfl (by repeat (first | exact List.Mem.head _ | apply List.Mem.tail)) rfl (by rfl) ) ?_ | refine l_nil ?_ | refine c_region ?_ | refine c_seq ?_ | refine x_then ?_ | refine r_alloc rfl rfl rfl (by first | exact aggL ) (fun _ => ?_) | refine r_store rfl rfl rfl rfl rfl rfl rfl (by repeat (first | exact Upd.head | apply Upd.tail)) (by rfl) ?_ | refine c_false rfl ?_ | refine c_skip ?_ )
              refine r_call rfl rfl rfl (fun W hW => Inside_calls a b (scLo L H D N) (scHi L H D N) W) ?_
              rw [in_yes v1 v4 hb.1 hb.2]
              repeat (first | refine l_val rfl rfl (by first | exact pureEval_ok rfl ) ?_ | refine l_nil ?_ | refine c_region ?_ | refine c_seq ?_ | refine x_then ?_ | refine c_ret ?_ )
              exact x_ret rfl rfl (by repeat (first | exact Res.nil | (apply Res.tmp; rfl) | (apply Res.cell; rfl; exact (by repeat (first | exact List.Mem.head _ | apply List.Mem.tail)); rfl; rfl))) rfl (fun W hW => ⟨by first | rfl | (simp; done) | (simp_all; done), hW.below⟩)
            · have := s2 v3 hk
              clear s2
              repeat (first | refine l_val rfl rfl (by first | exact pureEval_ok rfl ) ?_ | refine l_nil ?_ | refine c_region ?_ | refine c_seq ?_ | refine x_then ?_ | refine r_alloc rfl rfl rfl (by first | exact aggL ) (fun _ => ?_) | refine r_store rfl rfl rfl rfl rfl rfl rfl (by repeat (first | exact Upd.head | apply Upd.tail)) (by rfl) ?_ | refine c_dec_t rfl (by first | omega ) ?_ | refine c_ret ?_ | refine x_then_ret ?_ )
              exact x_ret rfl rfl (by repeat (first | exact Res.nil | (apply Res.tmp; rfl) | (apply Res.cell; rfl; exact (by repeat (first | exact List.Mem.head _ | apply List.Mem.tail)); rfl; rfl))) rfl (fun W hW => ⟨by first | rfl | (simp; done) | (simp_all; done), hW.below⟩)
  · repeat (first | refine l_val rfl rfl (by first | exact pureEval_ok rfl | exact v_load rfl (by repeat (first | exact List.Mem.head _ | apply List.Mem.tail)) rfl (by rfl) | exact v_build rfl rfl (by rfl) | exact v_eqS rfl rfl rfl rfl ) ?_ | refine l_nil ?_ | refine c_region ?_ | refine c_seq ?_ | refine x_then ?_ | refine l_skip rfl rfl ?_ | refine r_alloc rfl rfl rfl (by first | exact aggL ) (fun _ => ?_) | refine r_store rfl rfl rfl rfl rfl rfl rfl (by repeat (first | exact Upd.head | apply Upd.tail)) (by rfl) ?_ | refine c_true rfl ?_ | refine c_ret ?_ | refine x_then_ret ?_ | refine l_dec_t rfl rfl rfl rfl rfl (by first | omega ) ?_ | refine l_dec_f rfl rfl rfl rfl rfl (by first | omega ) ?_ )
    exact x_ret rfl rfl (by repeat (first | exact Res.nil | (apply Res.tmp; rfl) | (apply Res.cell; rfl; exact (by repeat (first | exact List.Mem.head _ | apply List.Mem.tail)); rfl; rfl))) rfl (fun W hW => ⟨by first | rfl | (simp; done) | (simp_all; done), hW.below⟩)
end R21
end Go.Proofs
