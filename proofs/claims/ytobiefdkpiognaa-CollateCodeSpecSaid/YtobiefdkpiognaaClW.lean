/- Collating: codes, signs and readings against the specification. -/
import Derived.Test.YtobiefdkpiognaaClU
set_option linter.unusedSectionVars false
set_option linter.unusedVariables false
set_option linter.unusedSimpArgs false
namespace Go.Proofs
open Go.RowKit Go.Kin Go.Kin.Cl
namespace R41
theorem cosL_len {x : Wi} (h : x.rs.length ≤ 200) : (cosL x).length ≤ 200 := by
  unfold cosL
  split
  · rw [cds_len]; exact h
  · exact Nat.zero_le _
set_option maxRecDepth 100000 in
set_option maxHeartbeats 80000000 in
theorem collateCodeSpec_calls (s : Sg) (c : Int) (x : Wi) (w : World) (hc : -9223372036854775808 ≤ c ∧ c ≤ 9223372036854775807) (hx : WiOK w x) :
    Calls Try.prog 4 ⟨[.agg ⟨sgE s⟩, .int .i64 c, .agg ⟨wiE x⟩]⟩ w fun e w' => e = .returned (.bool true) ∧ Below w.heap.size w w' := by
  have hxl := hx.len
  refine fun_enter Try.func4 rfl Try.ntmps4 rfl rfl (satW_nil w) ?_
  repeat (first | refine l_val rfl rfl (by first | exact pureEval_ok rfl ) ?_ | refine l_nil ?_ | refine c_region ?_ | refine c_seq ?_ | refine x_then ?_ | refine r_box rfl rfl rfl rfl (fun _ => ?_) )
  refine r_call rfl rfl rfl (fun W hW => sane_calls W) ?_
  by_cases h200 : 200 < x.rs.length
  · repeat (first | refine l_val rfl rfl (by first | exact pureEval_ok rfl | exact v_load rfl (by repeat (first | exact List.Mem.head _ | apply List.Mem.tail)) rfl (by rfl) ) ?_ | refine l_nil ?_ | refine c_region ?_ | refine c_seq ?_ | refine x_then ?_ | refine c_false rfl ?_ | refine c_dec_t rfl (by first | omega ) ?_ | refine c_skip ?_ | refine c_ret ?_ | refine x_then_ret ?_ )
    exact x_ret rfl rfl (by repeat (first | exact Res.nil | (apply Res.tmp; rfl) | (apply Res.cell; rfl; exact (by repeat (first | exact List.Mem.head _ | apply List.Mem.tail)); rfl; rfl))) rfl (fun W hW => ⟨rfl, hW.below⟩)
  have hcl := cosL_len (x := x) (by omega)
  repeat (first | refine l_val rfl rfl (by first | exact pureEval_ok rfl | exact v_load rfl (by repeat (first | exact List.Mem.head _ | apply List.Mem.tail)) rfl (by rfl) ) ?_ | refine l_nil ?_ | refine c_region ?_ | refine c_seq ?_ | refine x_then ?_ | refine c_false rfl ?_ | refine c_dec_f rfl (by first | omega ) ?_ | refine c_skip ?_ )
  refine r_call rfl rfl rfl (fun W hW => Code_calls s W) ?_
  repeat (first | refine l_val rfl rfl (by first | exact pureEval_ok rfl | exact v_load rfl (by repeat (first | exact List.Mem.head _ | apply List.Mem.tail)) rfl (by rfl) ) ?_ | refine l_nil ?_ | refine c_region ?_ | refine c_seq ?_ | refine x_then ?_ )
  refine r_call rfl rfl rfl (fun W hW => rCode_calls s W) ?_
  repeat (first | refine l_val rfl rfl (by first | exact pureEval_ok rfl ) ?_ | refine l_nil ?_ | refine c_region ?_ | refine c_seq ?_ | refine x_then ?_ )
  refine r_call rfl rfl rfl (fun W hW => Sign_calls c W hc) ?_
  repeat (first | refine l_val rfl rfl (by first | exact pureEval_ok rfl ) ?_ | refine l_nil ?_ | refine c_region ?_ | refine c_seq ?_ | refine x_then ?_ | refine r_alloc rfl rfl rfl (by first | exact aggL ) (fun _ => ?_) | refine r_store rfl rfl rfl rfl rfl rfl rfl (by repeat (first | exact Upd.head | apply Upd.tail)) (by rfl) ?_ )
  refine r_call rfl rfl rfl (fun W hW => rSign_calls c W) ?_
  unfold v2 vS
  generalize codA s = ca at *
  generalize hsg : sgnA c = sg at *
  obtain ⟨c1, c2⟩ := ca
  obtain ⟨s1, s2⟩ := sg
  simp only
  repeat (first | refine l_val rfl rfl (by first | exact pureEval_ok rfl | exact v_load rfl (by repeat (first | exact List.Mem.head _ | apply List.Mem.tail)) rfl (by rfl) ) ?_ | refine l_nil ?_ | refine c_region ?_ | refine c_seq ?_ | refine x_then ?_ | refine r_alloc rfl rfl rfl (by first | exact aggL ) (fun _ => ?_) | refine r_store rfl rfl rfl rfl rfl rfl rfl (by repeat (first | exact Upd.head | apply Upd.tail)) (by rfl) ?_ )
  refine l_callF (ι := Option Addr × Nat) (v := fun q => .tuple ⟨[.slice q.1 (cosL x).length q.2, .int .i64 (chkW [x])]⟩) (fun q W W' => Fr W W' q.1 1 ((cosL x).map inE)) rfl rfl rfl (MSub.refl _) (fun W hW => ?_) ?_
  · refine (Codes_calls x W (hx.later hW.below)).mono fun e W' h => ?_
    obtain ⟨A', c', h1, h2, h3⟩ := CosQ.fr h
    exact ⟨(A', c'), h1, h2, h3⟩
  rintro ⟨P1, pc1⟩ W W1 hV1 hB1 hW1 hq1
  refine l_gen fun D1 hDe1 => ?_
  simp only at hq1 ⊢
  have hS1 : Same (base w) w W1 := hW1.same
  have hD1 : ∀ k, base w k → D1 k := by rw [hDe1]; exact hW1.allBut (MSub.refl _)
  have p1 : Ar W1 D1 P1 1 ((cosL x).map inE) := by rw [hDe1]; exact hq1.ar (inE_ne _) (SatW.lts hV1)
  clear hV1 hB1 hq1 hDe1
  repeat (first | refine l_val rfl rfl (by first | exact pureEval_ok rfl | exact v_load rfl (by repeat (first | exact List.Mem.head _ | apply List.Mem.tail)) rfl (by rfl) ) ?_ | refine l_nil ?_ | refine c_region ?_ | refine c_seq ?_ | refine x_then ?_ )
  refine l_callF (ι := Option Addr × Nat) (v := fun q => .tuple ⟨[.slice q.1 (cosL x).length q.2, .int .i64 (chkW [x])]⟩) (fun q W W' => Fr W W' q.1 1 ((cosL x).map inE)) rfl rfl rfl (MSub.refl _) (fun W hW => ?_) ?_
  · refine (rCodes_calls x W (hx.later (hS1.trans (hW.same.mono hD1)).base_later)).mono fun e W' h => ?_
    obtain ⟨A', c', h1, h2, h3⟩ := CosQ.fr h
    exact ⟨(A', c'), h1, h2, h3⟩
  rintro ⟨P2, pc2⟩ W W2 hV2 hB2 hW2 hq2
  refine l_gen fun D2 hDe2 => ?_
  simp only at hq2 ⊢
  have hDD : ∀ k, D1 k → D2 k := by rw [hDe2]; exact hW2.allBut (MSub.refl _)
  have hS2 : Same (base w) w W2 := hS1.trans (hW2.same.mono hD1)
  have hD2 : ∀ k, base w k → D2 k := fun k hk => hDD k (hD1 k hk)
  have p2 : Ar W2 D2 P2 1 ((cosL x).map inE) := by rw [hDe2]; exact hq2.ar (inE_ne _) (SatW.lts hV2)
  have p1 := p1.move hW2.same hDD
  clear hV2 hB2 hq2 hDe2
  generalize cosL x = L at *
  generalize chkW [x] = z at *
  repeat (first | refine l_val rfl rfl (by first | exact pureEval_ok rfl | exact v_load rfl (by repeat (first | exact List.Mem.head _ | apply List.Mem.tail)) rfl (by rfl) | exact v_eqS rfl rfl rfl rfl ) ?_ | refine l_nil ?_ | refine c_region ?_ | refine c_seq ?_ | refine x_then ?_ | refine l_dec_t rfl rfl rfl rfl rfl (by first | omega ) ?_ )
  simp only [eq_self, decide_true, Bool.and_self, Bool.and_true]
  repeat (first | refine l_val rfl rfl (by first | exact pureEval_ok rfl ) ?_ | refine l_dec_t rfl rfl rfl rfl rfl (by first | omega ) ?_ )
  refine r_call rfl rfl rfl (fun W hW => SameInts_calls P1 P2 pc1 pc2 L L W (by omega) (by omega) (p1.at hW) (p2.at hW)) ?_
  rw [decide_eq_true (rfl : L = L)]
  repeat (first | refine l_val rfl rfl (by first | exact pureEval_ok rfl ) ?_ | refine l_nil ?_ | refine x_then ?_ | refine c_ret ?_ )
  exact x_ret rfl rfl (by repeat (first | exact Res.nil | (apply Res.tmp; rfl) | (apply Res.cell; rfl; exact (by repeat (first | exact List.Mem.head _ | apply List.Mem.tail)); rfl; rfl))) rfl (fun W hW => ⟨by simp, (hS2.trans (hW.same.mono hD2)).base_later⟩)
end R41
end Go.Proofs
