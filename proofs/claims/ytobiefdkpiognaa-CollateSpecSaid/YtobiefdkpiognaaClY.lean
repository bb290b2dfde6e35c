/- Collating: Check and Table against the specification. -/
import Derived.Test.YtobiefdkpiognaaClX
import Derived.Test.YtobiefdkpiognaaClY0
set_option linter.unusedSectionVars false
set_option linter.unusedVariables false
set_option linter.unusedSimpArgs false
namespace Go.Proofs
open Go.RowKit Go.Kin Go.Kin.Cl
namespace R41
theorem tabR_bd {ws : List Wi} : ∀ l ∈ tabR ws, l.length ≤ 256 := fun l hl => by
  unfold tabR at hl
  split at hl
  · rename_i h
    obtain ⟨j, hj, rfl⟩ := List.mem_map.1 hl
    have hj := List.mem_range.1 hj
    rw [rowI_len (by unfold lsW; rw [List.length_map]; exact hj)]
    exact h.2.2
  · cases hl
theorem tabR_len {ws : List Wi} : (tabR ws).length ≤ ws.length := by
  unfold tabR
  split
  · simp
  · exact Nat.zero_le _
set_option maxRecDepth 100000 in
set_option maxHeartbeats 80000000 in
theorem collateSpec_calls (A : Option Addr) (cap : Nat) (ws : List Wi) (w : World) (hA : Kin.At w A 3 (ws.map wiE)) (hx : ∀ x ∈ ws, WiOK w x) (hl : ws.length ≤ 9223372036854775807) :
    Calls Try.prog 3 ⟨[.slice A ws.length cap]⟩ w fun e w' => e = .returned (.bool true) ∧ Below w.heap.size w w' := by
  refine fun_enter Try.func3 rfl Try.ntmps3 rfl rfl (satW_nil w) ?_
  repeat (first | refine l_val rfl rfl (by first | exact pureEval_ok rfl ) ?_ | refine l_nil ?_ | refine c_region ?_ | refine c_seq ?_ | refine x_then ?_ )
  refine r_call rfl rfl rfl (fun W hW => sane_calls W) ?_
  repeat (first | refine l_val rfl rfl (by first | exact pureEval_ok rfl ) ?_ | refine l_nil ?_ | refine c_region ?_ | refine c_seq ?_ | refine x_then ?_ | refine c_false rfl ?_ | refine c_skip ?_ )
  refine r_call rfl rfl rfl (fun W hW => Few_calls A cap ws W (hA.sat hW) (fun x hxm => (hx x hxm).len)) ?_
  cases hf : fewW ws with
  | false =>
    repeat (first | refine l_val rfl rfl (by first | exact pureEval_ok rfl ) ?_ | refine l_nil ?_ | refine c_region ?_ | refine c_seq ?_ | refine x_then ?_ | refine c_true rfl ?_ | refine c_ret ?_ | refine x_then_ret ?_ )
    exact x_ret rfl rfl (by repeat (first | exact Res.nil | (apply Res.tmp; rfl) | (apply Res.cell; rfl; exact (by repeat (first | exact List.Mem.head _ | apply List.Mem.tail)); rfl; rfl))) rfl (fun W hW => ⟨rfl, hW.below⟩)
  | true =>
  obtain ⟨h100, h200⟩ := fewW_bd hf
  repeat (first | refine l_val rfl rfl (by first | exact pureEval_ok rfl ) ?_ | refine l_nil ?_ | refine c_region ?_ | refine c_seq ?_ | refine x_then ?_ | refine c_false rfl ?_ | refine c_skip ?_ )
  refine l_callF (ι := Option Addr × Nat × List RV) (v := fun q => .tuple ⟨[.slice q.1 q.2.2.length q.2.1, .int .i64 (tabE ws)]⟩) (mem' := []) (fun q W W' => q.2.2.map RV.l = tabR ws ∧ RowsF W W' q.1 q.2.2) rfl rfl rfl (by repeat (first | exact MSub.nil | refine MSub.keep (by first | rfl | assumption) ?_ | refine MSub.drop ?_ | exact MSub.refl _)) (fun W hW => ?_) ?_
  · refine (Table_calls A cap ws W (hA.sat hW) (fun x hxm => (hx x hxm).later hW.below) hl).mono ?_
    rintro e W' ⟨TA, tc, rows, h1, h2, h3, h4⟩
    exact ⟨(TA, tc, rows), h1, h2, h3, h4⟩
  rintro ⟨TA, tc, rows⟩ W W1 hV hB1 hW1 ⟨hr1, hr2⟩
  refine l_gen fun D1 hDe1 => ?_
  simp only at hr1 hr2 ⊢
  have hS1 : Same (base w) w W1 := hW1.same
  have hD1 : ∀ k, base w k → D1 k := by rw [hDe1]; exact hW1.allBut (MSub.refl _)
  have top1 : Ar W1 D1 TA 1 (rows.map rvE) := by rw [hDe1]; exact hr2.top.ar (rvE_ne _) (SatW.lts (mem := []) (hV.mono (List.nil_sublist _)))
  have rws1 : ∀ v ∈ rows, Ar W1 D1 v.A 1 (v.l.map inE) := fun v hv => by rw [hDe1]; exact (hr2.row v hv).ar (inE_ne _) (SatW.lts (mem := []) (hV.mono (List.nil_sublist _)))
  have hlen1 := congrArg List.length hr1
  rw [List.length_map] at hlen1
  clear hV hB1 hW1 hr2 hDe1
  repeat (first | refine l_val rfl rfl (by first | exact pureEval_ok rfl ) ?_ | refine l_nil ?_ | refine c_region ?_ | refine c_seq ?_ | refine x_then ?_ )
  refine l_callF (ι := Option Addr × Nat × List RV) (v := fun q => .tuple ⟨[.slice q.1 q.2.2.length q.2.1, .int .i64 (tabE ws)]⟩) (mem' := []) (fun q W W' => q.2.2.map RV.l = tabR ws ∧ RowsF W W' q.1 q.2.2) rfl rfl rfl (by repeat (first | exact MSub.nil | refine MSub.keep (by first | rfl | assumption) ?_ | refine MSub.drop ?_ | exact MSub.refl _)) (fun W hW => ?_) ?_
  · have hb : Below w.heap.size w W := (hS1.trans (hW.same.mono hD1)).base_later
    refine (rTable_calls A cap ws W (hA.later hb) (fun x hxm => (hx x hxm).later hb) hl).mono ?_
    rintro e W' ⟨TA, tc, rows, h1, h2, h3, h4⟩
    exact ⟨(TA, tc, rows), h1, h2, h3, h4⟩
  rintro ⟨UA, uc, rows2⟩ W W2 hV hB2 hW2 ⟨hs1, hs2⟩
  refine l_gen fun D2 hDe2 => ?_
  simp only at hs1 hs2 ⊢
  have hDD : ∀ k, D1 k → D2 k := by rw [hDe2]; exact hW2.allBut (MSub.refl _)
  have hS2 : Same (base w) w W2 := hS1.trans (hW2.same.mono hD1)
  have hD2 : ∀ k, base w k → D2 k := fun k hk => hDD k (hD1 k hk)
  have top2 := top1.move hW2.same hDD
  have rws2 := fun v hv => (rws1 v hv).move hW2.same hDD
  have topb : Ar W2 D2 UA 1 (rows2.map rvE) := by rw [hDe2]; exact hs2.top.ar (rvE_ne _) (SatW.lts (mem := []) (hV.mono (List.nil_sublist _)))
  have rwsb : ∀ v ∈ rows2, Ar W2 D2 v.A 1 (v.l.map inE) := fun v hv => by rw [hDe2]; exact (hs2.row v hv).ar (inE_ne _) (SatW.lts (mem := []) (hV.mono (List.nil_sublist _)))
  have hlen2 := congrArg List.length hs1
  rw [List.length_map] at hlen2
  clear hV hB2 hW2 hs2 hDe2 hDD hS1 hD1 top1 rws1
  have ht := tabR_len (ws := ws)
  have hb1 : ∀ v ∈ rows, v.l.length ≤ 100000 := fun v hv => by
    have := tabR_bd (ws := ws) v.l (by rw [← hr1]; exact List.mem_map.2 ⟨v, hv, rfl⟩)
    omega
  have hb2 : ∀ v ∈ rows2, v.l.length ≤ 100000 := fun v hv => by
    have := tabR_bd (ws := ws) v.l (by rw [← hs1]; exact List.mem_map.2 ⟨v, hv, rfl⟩)
    omega
  repeat (first | refine l_val rfl rfl (by first | exact pureEval_ok rfl ) ?_ | refine l_nil ?_ | refine c_region ?_ | refine c_seq ?_ | refine x_then ?_ )
  refine r_call rfl rfl rfl (fun W hW => Check_calls A cap ws W (hA.later (hS2.trans (hW.same.mono hD2)).base_later) (fun x hxm => (hx x hxm).later (hS2.trans (hW.same.mono hD2)).base_later) hl) ?_
  repeat (first | refine l_val rfl rfl (by first | exact pureEval_ok rfl ) ?_ )
  refine r_call rfl rfl rfl (fun W hW => rCheck_calls A cap ws W (hA.later (hS2.trans (hW.same.mono hD2)).base_later) (fun x hxm => (hx x hxm).later (hS2.trans (hW.same.mono hD2)).base_later) hl) ?_
  repeat (first | refine l_val rfl rfl (by first | exact pureEval_ok rfl ) ?_ | refine l_dec_t rfl rfl rfl rfl rfl (by first | omega ) ?_ )
  refine r_call rfl rfl rfl (fun W hW => SameRows_calls TA UA tc uc rows rows2 W (by omega) (by omega) hb1 hb2 ⟨top2.at hW, fun v hv => (rws2 v hv).at hW⟩ ⟨topb.at hW, fun v hv => (rwsb v hv).at hW⟩) ?_
  rw [show decide (rows.map RV.l = rows2.map RV.l) = true by rw [hr1, hs1]; simp]
  repeat (first | refine l_val rfl rfl (by first | exact pureEval_ok rfl ) ?_ | refine l_nil ?_ | refine x_then ?_ | refine c_ret ?_ )
  exact x_ret rfl rfl (by repeat (first | exact Res.nil | (apply Res.tmp; rfl) | (apply Res.cell; rfl; exact (by repeat (first | exact List.Mem.head _ | apply List.Mem.tail)); rfl; rfl))) rfl (fun W hW => ⟨by first | rfl | (simp; done), (hS2.trans (hW.same.mono hD2)).base_later⟩)
end R41
end Go.Proofs
