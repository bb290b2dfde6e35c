/- StnEither, walked. -/
import Derived.Test.YtakjgfdaaebifaaStL4
set_option linter.unusedSectionVars false
set_option linter.unusedVariables false
set_option linter.unusedSimpArgs false
namespace Go.Proofs
open Go.RowKit Go.Kin Go.Kin.St
namespace R22

theorem sch_sol {n : Int} {l : List Lk} {t : List Int} (h : schB n l t = true) : (t.length : Int) = n ∧ Tm t ∧ Sol (edges l) (tf t) := by
  unfold schB at h
  simp only [Bool.and_eq_true, decide_eq_true_eq] at h
  exact ⟨h.1, (tmB_iff t).1 h.2.1, (metB_sol l t).1 h.2.2⟩
theorem ear_bound {n : Int} {l : List Lk} {L : Nat → Int} (he : ear n l = some L) {x : Nat} (hx : x < n.toNat) : 0 ≤ L x ∧ L x ≤ 70368744177664 := by
  obtain ⟨hc, hL⟩ := ear_least he
  obtain ⟨c1, c2, c3, hF⟩ := chk_fine hc
  have h1 := hL.pos x hx
  have h2 := least_bound (W := 1099511627776) (by omega) hF.inE (fun e he => (hF.weights e he).1) hL x hx
  exact ⟨h1, by omega⟩
theorem lst_tm {n : Int} {l : List Lk} {L : Nat → Int} (he : ear n l = some L) : Tm (lst n L) := by
  intro v hv
  unfold lst at hv
  obtain ⟨x, hx, rfl⟩ := List.mem_map.1 hv
  have := ear_bound he (List.mem_range.1 hx)
  omega
theorem lst_sol {n : Int} {l : List Lk} {L : Nat → Int} (he : ear n l = some L) : Sol (edges l) (tf (lst n L)) := by
  obtain ⟨hc, hL⟩ := ear_least he
  obtain ⟨c1, c2, c3, hF⟩ := chk_fine hc
  intro e hm
  have hi := hF.inE e hm
  rw [lst_tf hi.1, lst_tf hi.2]
  exact hL.sol e hm
theorem lst_sch {n : Int} {l : List Lk} {L : Nat → Int} (he : ear n l = some L) : schB n l (lst n L) = true := by
  obtain ⟨hc, hL⟩ := ear_least he
  obtain ⟨c1, c2, c3, hF⟩ := chk_fine hc
  unfold schB
  rw [decide_eq_true (show ((lst n L).length : Int) = n by rw [lst_len]; omega), (tmB_iff _).2 (lst_tm he), (metB_sol _ _).2 (lst_sol he)]; rfl
theorem lst_mt {n : Int} {l : List Lk} {L : Nat → Int} (he : ear n l = some L) : mtV n l (lst n L) = .tuple ⟨[.bool true, .int .i64 0]⟩ := by
  obtain ⟨hc, hL⟩ := ear_least he
  obtain ⟨c1, c2, c3, hF⟩ := chk_fine hc
  have h := mt_ok (t := lst n L) hc (by rw [lst_len]; omega) ((tmB_iff _).2 (lst_tm he))
  unfold mtV
  rw [h.1, h.2, (metB_sol _ _).2 (lst_sol he)]
/-- no schedule is earlier -/
theorem sch_le {n : Int} {l : List Lk} {L : Nat → Int} (he : ear n l = some L) {t : List Int} (h : schB n l t = true) {x : Nat} (hx : x < n.toNat) : L x ≤ tf t x := by
  obtain ⟨h1, h2, h3⟩ := sch_sol h
  exact (ear_least he).2.le _ h3 (fun y _ => (tf_in h2 y).1) x hx
theorem sch_none {n : Int} {l : List Lk} (he : ear n l = none) (hc : chk n l = 0) (t : List Int) : schB n l t = false := by
  cases h : schB n l t with
  | false => rfl
  | true => exact absurd (sch_sol h).2.2 (ear_none he hc _)

set_option maxRecDepth 100000 in
set_option maxHeartbeats 4000000 in
theorem stnEither_calls (n : Int) (A T : Option Addr) (cap capT : Nat) (l : List Lk) (t : List Int) (w : World) (hA : At w A 4 (l.map lkE)) (hT : At w T 1 (t.map inE)) :
    Calls Try.prog 5 ⟨[.agg ⟨netCells n A l.length cap⟩, .slice T t.length capT]⟩ w fun e w' => e = .returned (.bool true) ∧ Below w.heap.size w w' := by
  refine fun_enter Try.func5 rfl Try.ntmps5 rfl rfl (satW_nil w) ?_
  repeat (first | refine l_val rfl rfl (by first | exact pureEval_ok rfl ) ?_ | refine l_nil ?_ | refine c_region ?_ | refine c_seq ?_ | refine x_then ?_ | refine r_box rfl rfl rfl rfl (fun _ => ?_) )
  refine r_call rfl rfl rfl (fun W hW => sane_calls W) ?_
  by_cases h1 : (l.length : Int) ≤ 300
  · by_cases h2 : (t.length : Int) ≤ 300
    · repeat (first | refine l_val rfl rfl (by first | exact pureEval_ok rfl | exact v_load rfl (by repeat (first | exact List.Mem.head _ | apply List.Mem.tail)) rfl (by rfl) ) ?_ | refine l_nil ?_ | refine c_region ?_ | refine c_seq ?_ | refine x_then ?_ | refine c_false rfl ?_ | refine c_skip ?_ | refine l_dec_f rfl rfl rfl rfl rfl (by first | omega | exact fun h => h rfl ) ?_ )
      refine r_call rfl rfl rfl (fun W hW => check_calls n A cap l W (by omega) (hA.sat hW)) ?_
      by_cases hc : chk n l = 0
      · obtain ⟨c1, c2, c3, hF⟩ := chk_fine hc
        rw [hc]
        repeat (first | refine l_val rfl rfl (by first | exact pureEval_ok rfl | exact v_load rfl (by repeat (first | exact List.Mem.head _ | apply List.Mem.tail)) rfl (by rfl) ) ?_ | refine l_nil ?_ | refine c_region ?_ | refine c_seq ?_ | refine x_then ?_ | refine c_false rfl ?_ | refine c_skip ?_ )
        cases he : ear n l with
        | none =>
          refine r_call rfl rfl rfl (fun W hW => hc ▸ earQ_none (Ear_calls n A cap l W (by omega) (hA.sat hW)) he) ?_
          repeat (first | refine l_val rfl rfl (by first | exact pureEval_ok rfl | exact v_load rfl (by repeat (first | exact List.Mem.head _ | apply List.Mem.tail)) rfl (by rfl) ) ?_ | refine l_nil ?_ | refine c_region ?_ | refine c_seq ?_ | refine x_then ?_ )
          refine r_call1 (ι := Cyc l) (bk := fun i => i.b) rfl rfl rfl (fun W hW => refQ_yes (Refute_calls n A cap l W (by omega) (hA.sat hW)) hc he) (fun cy => ?_)
          repeat (first | refine l_val rfl rfl (by first | exact pureEval_ok rfl | exact v_load rfl (by repeat (first | exact List.Mem.head _ | apply List.Mem.tail)) rfl (by rfl) ) ?_ | refine l_nil ?_ | refine c_region ?_ | refine c_seq ?_ | refine x_then ?_ | refine c_true rfl ?_ | refine c_false rfl ?_ | refine c_skip ?_ )
          have hac : acV n l cy.us = .tuple ⟨[.bool true, .int .i64 0]⟩ := by
            unfold acV; rw [ac_ok hc (Nat.pos_of_ne_zero fun h => cy.ne (List.eq_nil_of_length_eq_zero h)) (by have := cy.le; omega), cy.ok, hc]
          have hle := cy.le
          refine r_call rfl rfl rfl (fun W hW => hac ▸ Accepts_calls n A (some ⟨cy.b, 0, none⟩) cap cy.cap l cy.us W (by omega) (by omega) (hA.sat hW) (hW.rows (b := cy.b) (by repeat (first | exact List.Mem.head _ | apply List.Mem.tail)) (congrArg (· ++ cy.rest) (flat_us cy.us)) (us_len _))) ?_
          repeat (first | refine l_val rfl rfl (by first | exact pureEval_ok rfl | exact v_load rfl (by repeat (first | exact List.Mem.head _ | apply List.Mem.tail)) rfl (by rfl) ) ?_ | refine l_nil ?_ | refine c_region ?_ | refine c_seq ?_ | refine x_then ?_ )
          refine r_call rfl rfl rfl (fun W hW => sch_none he hc t ▸ met_calls n A T cap capT l t W (by omega) (by omega) (hA.sat hW) (hT.sat hW) hF (by omega)) ?_
          repeat (first | refine l_val rfl rfl (by first | exact pureEval_ok rfl ) ?_ | refine l_nil ?_ | refine x_then ?_ | refine c_ret ?_ | refine x_then_ret ?_ )
          exact x_ret rfl rfl (by repeat (first | exact Res.nil | (apply Res.tmp; rfl) | (apply Res.cell; rfl; exact (by repeat (first | exact List.Mem.head _ | apply List.Mem.tail)); rfl; rfl))) rfl (fun W hW => ⟨by first | rfl | (simp; done) | (simp_all; done), hW.below⟩)
        | some L =>
          refine r_call1 (ι := Nat) (bk := fun b => b) rfl rfl rfl (fun W hW => earQ_some (Ear_calls n A cap l W (by omega) (hA.sat hW)) he) (fun b1 => ?_)
          repeat (first | refine l_val rfl rfl (by first | exact pureEval_ok rfl | exact v_load rfl (by repeat (first | exact List.Mem.head _ | apply List.Mem.tail)) rfl (by rfl) ) ?_ | refine l_nil ?_ | refine c_region ?_ | refine c_seq ?_ | refine x_then ?_ )
          refine r_call rfl rfl rfl (fun W hW => hc ▸ refQ_no (Refute_calls n A cap l W (by omega) (hA.sat hW)) (.inr (by rw [he]; intro h; cases h))) ?_
          repeat (first | refine l_val rfl rfl (by first | exact pureEval_ok rfl | exact v_load rfl (by repeat (first | exact List.Mem.head _ | apply List.Mem.tail)) rfl (by rfl) ) ?_ | refine l_nil ?_ | refine c_region ?_ | refine c_seq ?_ | refine x_then ?_ | refine c_false rfl ?_ | refine c_skip ?_ )
          have hln : (lst n L).length = n.toNat := lst_len n L
          rw [← hln]
          refine r_call rfl rfl rfl (fun W hW => lst_mt he ▸ Meets_calls n A (some ⟨b1, 0, none⟩) cap _ l (lst n L) W (by omega) (by omega) (hA.sat hW) (hW.rows (b := b1) (by repeat (first | exact List.Mem.head _ | apply List.Mem.tail)) (lst_rows2 n L) (in_len _))) ?_
          repeat (first | refine l_val rfl rfl (by first | exact pureEval_ok rfl | exact v_load rfl (by repeat (first | exact List.Mem.head _ | apply List.Mem.tail)) rfl (by rfl) ) ?_ | refine l_nil ?_ | refine c_region ?_ | refine c_seq ?_ | refine x_then ?_ )
          refine r_call rfl rfl rfl (fun W hW => lst_sch he ▸ met_calls n A (some ⟨b1, 0, none⟩) cap _ l (lst n L) W (by omega) (by omega) (hA.sat hW) (hW.rows (b := b1) (by repeat (first | exact List.Mem.head _ | apply List.Mem.tail)) (lst_rows2 n L) (in_len _)) hF (by omega)) ?_
          repeat (first | refine l_val rfl rfl (by first | exact pureEval_ok rfl | exact v_load rfl (by repeat (first | exact List.Mem.head _ | apply List.Mem.tail)) rfl (by rfl) ) ?_ | refine l_nil ?_ | refine c_region ?_ | refine c_seq ?_ | refine x_then ?_ | refine c_false rfl ?_ | refine c_skip ?_ )
          cases hs : schB n l t with
          | false =>
            refine r_call rfl rfl rfl (fun W hW => hs ▸ met_calls n A T cap capT l t W (by omega) (by omega) (hA.sat hW) (hT.sat hW) hF (by omega)) ?_
            repeat (first | refine l_val rfl rfl (by first | exact pureEval_ok rfl ) ?_ | refine l_nil ?_ | refine c_region ?_ | refine c_seq ?_ | refine x_then ?_ | refine c_true rfl ?_ | refine c_ret ?_ | refine x_then_ret ?_ )
            exact x_ret rfl rfl (by repeat (first | exact Res.nil | (apply Res.tmp; rfl) | (apply Res.cell; rfl; exact (by repeat (first | exact List.Mem.head _ | apply List.Mem.tail)); rfl; rfl))) rfl (fun W hW => ⟨by first | rfl | (simp; done) | (simp_all; done), hW.below⟩)
          | true =>
            refine r_call rfl rfl rfl (fun W hW => hs ▸ met_calls n A T cap capT l t W (by omega) (by omega) (hA.sat hW) (hT.sat hW) hF (by omega)) ?_
            have htl := (sch_sol hs).1
            repeat (first | refine l_val rfl rfl (by first | exact pureEval_ok rfl ) ?_ | refine l_nil ?_ | refine c_region ?_ | refine c_seq ?_ | refine x_then ?_ | refine c_false rfl ?_ | refine c_block ?_ | refine c_skip ?_ )
            refine c_loop (ι := Nat) (fun k => k ≤ n.toNat) (fun k => [(1, .slice T t.length capT), (5, .slice (some ⟨b1, 0, none⟩) (lst n L).length (lst n L).length), (106, .int .i64 (lst n L).length), (107, .int .i64 k)]) (fun _ => [(b1, .cells ⟨ivec (lst n L).length L⟩ 3 (0, 0))]) (fun k => n.toNat - k) 0 (by omega) (by repeat (first | exact EnvSub.nil | refine EnvSub.cons rfl (by first | rfl | (congr 1; done) | (exact congrArg (Value.int _) (by omega)) | (simp; done)) ?_)) (by repeat (first | exact MSub.nil | refine MSub.keep (by first | rfl | assumption) ?_ | refine MSub.drop ?_ | exact MSub.refl _)) ?_
            intro k hk
            by_cases hlt : k < n.toNat
            · have hle := sch_le he hs hlt
              obtain ⟨b2, o2, rfl, e2⟩ := at_int hT (i := k) (by omega) (by omega)
              simp only [Int.toNat_natCast] at e2
              repeat (first | refine l_val rfl rfl (by first | exact v_add rfl rfl (by omega) (by omega) | exact pureEval_ok rfl ) ?_ | refine l_nil ?_ | refine c_region ?_ | refine c_seq ?_ | refine x_then ?_ | refine c_dec_t rfl (by first | omega ) ?_ | refine c_dec_f rfl (by first | omega | exact fun h => h rfl ) ?_ | refine c_block ?_ | refine c_skip ?_ | refine x_block ?_ | refine c_reads rfl (by decide +kernel) ?_ | refine q_val rfl rfl (by first | exact pureEval_ok rfl | exact v_load_ext0 rfl (by assumption) rfl (by rfl) | exact v_index rfl rfl rfl rfl (by omega) (by omega) (by with_reducible first | exact idx1 _  | exact idx2 _ _  ) | exact v_load_at rfl (by repeat (first | exact List.Mem.head _ | apply List.Mem.tail)) rfl rfl (by first | exact ivec_get (by omega) ) ) ?_ | refine q_nil ?_ )
              exact x_back (k + 1) hlt (by omega) (by repeat (first | exact EnvSub.nil | refine EnvSub.cons rfl (by first | rfl | (congr 1; done) | (exact congrArg (Value.int _) (by omega)) | (simp; done)) ?_)) (by repeat (first | exact MSub.nil | refine MSub.keep (by first | rfl | assumption) ?_ | refine MSub.drop ?_ | exact MSub.refl _))
            · repeat (first | refine l_val rfl rfl (by first | exact pureEval_ok rfl ) ?_ | refine l_nil ?_ | refine c_region ?_ | refine c_seq ?_ | refine x_then ?_ | refine c_dec_f rfl (by first | omega ) ?_ | refine c_ret ?_ | refine c_exit ?_ | refine x_then_exit ?_ | refine x_block_same ?_ )
              exact x_ret rfl rfl (by repeat (first | exact Res.nil | (apply Res.tmp; rfl) | (apply Res.cell; rfl; exact (by repeat (first | exact List.Mem.head _ | apply List.Mem.tail)); rfl; rfl))) rfl (fun W hW => ⟨by first | rfl | (simp; done) | (simp_all; done), hW.below⟩)
      · repeat (first | refine l_val rfl rfl (by first | exact pureEval_ok rfl ) ?_ | refine l_nil ?_ | refine c_region ?_ | refine c_seq ?_ | refine x_then ?_ | refine c_dec_t rfl (by first | omega ) ?_ | refine c_ret ?_ | refine x_then_ret ?_ )
        exact x_ret rfl rfl (by repeat (first | exact Res.nil | (apply Res.tmp; rfl) | (apply Res.cell; rfl; exact (by repeat (first | exact List.Mem.head _ | apply List.Mem.tail)); rfl; rfl))) rfl (fun W hW => ⟨by first | rfl | (simp; done) | (simp_all; done), hW.below⟩)
    · repeat (first | refine l_val rfl rfl (by first | exact pureEval_ok rfl | exact v_load rfl (by repeat (first | exact List.Mem.head _ | apply List.Mem.tail)) rfl (by rfl) ) ?_ | refine l_nil ?_ | refine c_region ?_ | refine c_seq ?_ | refine x_then ?_ | refine l_skip rfl rfl ?_ | refine c_true rfl ?_ | refine c_false rfl ?_ | refine c_skip ?_ | refine c_ret ?_ | refine x_then_ret ?_ | refine l_dec_t rfl rfl rfl rfl rfl (by first | omega ) ?_ | refine l_dec_f rfl rfl rfl rfl rfl (by first | omega ) ?_ )
      exact x_ret rfl rfl (by repeat (first | exact Res.nil | (apply Res.tmp; rfl) | (apply Res.cell; rfl; exact (by repeat (first | exact List.Mem.head _ | apply List.Mem.tail)); rfl; rfl))) rfl (fun W hW => ⟨by first | rfl | (simp; done) | (simp_all; done), hW.below⟩)
  · repeat (first | refine l_val rfl rfl (by first | exact pureEval_ok rfl | exact v_load rfl (by repeat (first | exact List.Mem.head _ | apply List.Mem.tail)) rfl (by rfl) ) ?_ | refine l_nil ?_ | refine c_region ?_ | refine c_seq ?_ | refine x_then ?_ | refine l_skip rfl rfl ?_ | refine c_true rfl ?_ | refine c_false rfl ?_ | refine c_skip ?_ | refine c_ret ?_ | refine x_then_ret ?_ | refine l_dec_t rfl rfl rfl rfl rfl (by first | omega ) ?_ )
    exact x_ret rfl rfl (by repeat (first | exact Res.nil | (apply Res.tmp; rfl) | (apply Res.cell; rfl; exact (by repeat (first | exact List.Mem.head _ | apply List.Mem.tail)); rfl; rfl))) rfl (fun W hW => ⟨by first | rfl | (simp; done) | (simp_all; done), hW.below⟩)
end R22
end Go.Proofs
