/- Collating: Codes, in the program and in the specification. Printed by gen_cos.py. -/
import Derived.Test.YtobiefdkpiognaaClS
set_option linter.unusedSectionVars false
set_option linter.unusedVariables false
set_option linter.unusedSimpArgs false
namespace Go.Proofs
open Go.RowKit Go.Kin Go.Kin.Cl
namespace R41
/-- what Codes answers -/
def cosL (x : Wi) : List Int := if chkW [x] = 0 then cds x else []
def CosQ (x : Wi) (w : World) (e : Ending) (w' : World) : Prop :=
  Below w.heap.size w w' ∧ ((cosL x = [] ∧ e = .returned (.tuple ⟨[.slice none 0 0, .int .i64 (chkW [x])]⟩)) ∨ (cosL x ≠ [] ∧ ∃ b cap rest, e = .returned (.tuple ⟨[.slice (some ⟨b, 0, none⟩) (cosL x).length cap, .int .i64 (chkW [x])]⟩) ∧ w.heap.size ≤ b ∧ w'.heap[b]? = some (.cells ⟨flatI (cosL x) ++ rest⟩ 3 (0, 0))))
theorem CosQ.fr {x : Wi} {w w' : World} {e : Ending} (h : CosQ x w e w') : ∃ A cap, e = .returned (.tuple ⟨[.slice A (cosL x).length cap, .int .i64 (chkW [x])]⟩) ∧ Below w.heap.size w w' ∧ Fr w w' A 1 ((cosL x).map inE) := by
  obtain ⟨h1, ⟨h2, h3⟩ | ⟨h2, b, cap, rest, h3, h5, h6⟩⟩ := h
  · exact ⟨none, 0, by rw [h2]; exact h3, h1, by rw [h2]; exact Fr.nil⟩
  · exact ⟨_, cap, h3, h1, fr_blk h5 h6⟩
theorem wiE_3 (x : Wi) : ∀ r ∈ [wiE x], r.length = 3 := fun r hr => by rw [List.mem_singleton.1 hr]; rfl
theorem cosL_ok {x : Wi} (h : chkW [x] = 0) : cosL x = cds x := if_pos h
theorem cosL_no {x : Wi} (h : chkW [x] ≠ 0) : cosL x = [] := if_neg h
set_option maxHeartbeats 4000000 in
theorem Codes_calls (x : Wi) (w : World) (hx : WiOK w x) : Calls Try.prog 22 ⟨[.agg ⟨wiE x⟩]⟩ w (CosQ x w) := by
  refine fun_enter Try.func22 rfl Try.ntmps22 rfl rfl (satW_nil w) ?_
  repeat (first | refine l_val rfl rfl (by first | exact pureEval_ok rfl | exact v_load rfl (by repeat (first | exact List.Mem.head _ | apply List.Mem.tail)) rfl (by rfl) ) ?_ | refine l_nil ?_ | refine c_region ?_ | refine c_seq ?_ | refine x_then ?_ | refine r_box rfl rfl rfl rfl (fun _ => ?_) | refine r_buildSlice rfl rfl rfl rfl rfl rfl (by rfl) (fun _ => ?_) )
  rename_i b1 b5
  refine r_call rfl rfl rfl (fun W hW => Check_calls (some ⟨b5, 0, none⟩) 1 [x] W (hW.rows (by repeat (first | exact List.Mem.head _ | apply List.Mem.tail)) (rest := []) rfl (wiE_3 x)) (fun y hy => by rw [List.mem_singleton.1 hy]; exact hx.later hW.below) (by simp)) ?_
  by_cases hc : chkW [x] = 0
  · have hl := cosL_ok hc
    have h64 : x.rs.length ≤ 64 := (chkW_0 hc).2.1 x (List.mem_singleton.2 rfl)
    rw [hc]
    repeat (first | refine l_val rfl rfl (by first | exact pureEval_ok rfl | exact v_load rfl (by repeat (first | exact List.Mem.head _ | apply List.Mem.tail)) rfl (by rfl) ) ?_ | refine l_nil ?_ | refine c_region ?_ | refine c_seq ?_ | refine x_then ?_ | refine c_false rfl ?_ | refine c_skip ?_ )
    by_cases hn : cds x = []
    · refine r_call (v := .slice none 0 0) rfl rfl rfl (fun W hW => (codes_calls x W (hx.later hW.below) (by omega)).mono fun e W' ⟨h1, h2⟩ => ?_) ?_
      · rcases h2 with ⟨-, h3⟩ | ⟨h3, -⟩
        · exact ⟨h3, h1⟩
        · exact absurd hn h3
      repeat (first | refine l_val rfl rfl (by first | exact pureEval_ok rfl ) ?_ | refine l_nil ?_ | refine x_then ?_ | refine c_ret ?_ )
      exact x_ret rfl rfl (by repeat (first | exact Res.nil | (apply Res.tmp; rfl) | (apply Res.cell; rfl; exact (by repeat (first | exact List.Mem.head _ | apply List.Mem.tail)); rfl; rfl))) rfl (fun W hW => ⟨hW.below, .inl ⟨by rw [hl, hn], by first | (rw [hc]; done) | (rw [hc]; rfl)⟩⟩)
    · refine r_call1 (ι := Nat × Nat × List Value) (v := fun q => .slice (some ⟨q.1, 0, none⟩) (cds x).length q.2.1) (bk := fun q => q.1) (o := fun q => .cells ⟨flatI (cds x) ++ q.2.2⟩ 3 (0, 0)) rfl rfl rfl (fun W hW => (codes_calls x W (hx.later hW.below) (by omega)).mono fun e W' ⟨h1, h2⟩ => ?_) ?_
      · rcases h2 with ⟨h3, -⟩ | ⟨-, b, cap, rest, h3, h4, h5, h6⟩
        · exact absurd h3 hn
        · exact ⟨(b, cap, rest), h3, h1, h5, h6⟩
      rintro ⟨b, cap, rest⟩
      repeat (first | refine l_val rfl rfl (by first | exact pureEval_ok rfl ) ?_ | refine l_nil ?_ | refine x_then ?_ | refine c_ret ?_ )
      exact x_ret rfl rfl (by repeat (first | exact Res.nil | (apply Res.tmp; rfl) | (apply Res.cell; rfl; exact (by repeat (first | exact List.Mem.head _ | apply List.Mem.tail)); rfl; rfl))) rfl (fun W hW => ⟨hW.below, .inr ⟨by rw [hl]; exact hn, b, cap, rest, by first | (rw [hc, hl]; done) | (rw [hc, hl]; rfl), Nat.le_of_not_lt (hW.own (b, _) (by repeat (first | exact List.Mem.head _ | apply List.Mem.tail))).1, by rw [hl]; exact (hW.own (b, _) (by repeat (first | exact List.Mem.head _ | apply List.Mem.tail))).2⟩⟩)
  · have hl := cosL_no hc
    obtain ⟨z, hz⟩ : ∃ z, chkW [x] = z := ⟨_, rfl⟩
    rw [hz] at hc ⊢
    repeat (first | refine l_val rfl rfl (by first | exact pureEval_ok rfl ) ?_ | refine l_nil ?_ | refine c_region ?_ | refine c_seq ?_ | refine x_then ?_ | refine c_dec_t rfl (by first | omega ) ?_ | refine c_ret ?_ | refine x_then_ret ?_ )
    exact x_ret rfl rfl (by repeat (first | exact Res.nil | (apply Res.tmp; rfl) | (apply Res.cell; rfl; exact (by repeat (first | exact List.Mem.head _ | apply List.Mem.tail)); rfl; rfl))) rfl (fun W hW => ⟨hW.below, .inl ⟨hl, by first | (rw [hz]; done) | (rw [hz]; rfl)⟩⟩)
set_option maxHeartbeats 4000000 in
theorem rCodes_calls (x : Wi) (w : World) (hx : WiOK w x) : Calls Try.prog 23 ⟨[.agg ⟨wiE x⟩]⟩ w (CosQ x w) := by
  refine fun_enter Try.func23 rfl Try.ntmps23 rfl rfl (satW_nil w) ?_
  repeat (first | refine l_val rfl rfl (by first | exact pureEval_ok rfl | exact v_load rfl (by repeat (first | exact List.Mem.head _ | apply List.Mem.tail)) rfl (by rfl) ) ?_ | refine l_nil ?_ | refine c_region ?_ | refine c_seq ?_ | refine x_then ?_ | refine r_box rfl rfl rfl rfl (fun _ => ?_) | refine r_buildSlice rfl rfl rfl rfl rfl rfl (by rfl) (fun _ => ?_) )
  rename_i b1 b5
  refine r_call rfl rfl rfl (fun W hW => rCheck_calls (some ⟨b5, 0, none⟩) 1 [x] W (hW.rows (by repeat (first | exact List.Mem.head _ | apply List.Mem.tail)) (rest := []) rfl (wiE_3 x)) (fun y hy => by rw [List.mem_singleton.1 hy]; exact hx.later hW.below) (by simp)) ?_
  by_cases hc : chkW [x] = 0
  · have hl := cosL_ok hc
    have h64 : x.rs.length ≤ 64 := (chkW_0 hc).2.1 x (List.mem_singleton.2 rfl)
    rw [hc]
    repeat (first | refine l_val rfl rfl (by first | exact pureEval_ok rfl | exact v_load rfl (by repeat (first | exact List.Mem.head _ | apply List.Mem.tail)) rfl (by rfl) ) ?_ | refine l_nil ?_ | refine c_region ?_ | refine c_seq ?_ | refine x_then ?_ | refine c_false rfl ?_ | refine c_skip ?_ )
    by_cases hn : cds x = []
    · refine r_call (v := .slice none 0 0) rfl rfl rfl (fun W hW => (rcodes_calls x W (hx.later hW.below) (by omega)).mono fun e W' ⟨h1, h2⟩ => ?_) ?_
      · rcases h2 with ⟨-, h3⟩ | ⟨h3, -⟩
        · exact ⟨h3, h1⟩
        · exact absurd hn h3
      repeat (first | refine l_val rfl rfl (by first | exact pureEval_ok rfl ) ?_ | refine l_nil ?_ | refine x_then ?_ | refine c_ret ?_ )
      exact x_ret rfl rfl (by repeat (first | exact Res.nil | (apply Res.tmp; rfl) | (apply Res.cell; rfl; exact (by repeat (first | exact List.Mem.head _ | apply List.Mem.tail)); rfl; rfl))) rfl (fun W hW => ⟨hW.below, .inl ⟨by rw [hl, hn], by first | (rw [hc]; done) | (rw [hc]; rfl)⟩⟩)
    · refine r_call1 (ι := Nat × Nat × List Value) (v := fun q => .slice (some ⟨q.1, 0, none⟩) (cds x).length q.2.1) (bk := fun q => q.1) (o := fun q => .cells ⟨flatI (cds x) ++ q.2.2⟩ 3 (0, 0)) rfl rfl rfl (fun W hW => (rcodes_calls x W (hx.later hW.below) (by omega)).mono fun e W' ⟨h1, h2⟩ => ?_) ?_
      · rcases h2 with ⟨h3, -⟩ | ⟨-, b, cap, rest, h3, h4, h5, h6⟩
        · exact absurd h3 hn
        · exact ⟨(b, cap, rest), h3, h1, h5, h6⟩
      rintro ⟨b, cap, rest⟩
      repeat (first | refine l_val rfl rfl (by first | exact pureEval_ok rfl ) ?_ | refine l_nil ?_ | refine x_then ?_ | refine c_ret ?_ )
      exact x_ret rfl rfl (by repeat (first | exact Res.nil | (apply Res.tmp; rfl) | (apply Res.cell; rfl; exact (by repeat (first | exact List.Mem.head _ | apply List.Mem.tail)); rfl; rfl))) rfl (fun W hW => ⟨hW.below, .inr ⟨by rw [hl]; exact hn, b, cap, rest, by first | (rw [hc, hl]; done) | (rw [hc, hl]; rfl), Nat.le_of_not_lt (hW.own (b, _) (by repeat (first | exact List.Mem.head _ | apply List.Mem.tail))).1, by rw [hl]; exact (hW.own (b, _) (by repeat (first | exact List.Mem.head _ | apply List.Mem.tail))).2⟩⟩)
  · have hl := cosL_no hc
    obtain ⟨z, hz⟩ : ∃ z, chkW [x] = z := ⟨_, rfl⟩
    rw [hz] at hc ⊢
    repeat (first | refine l_val rfl rfl (by first | exact pureEval_ok rfl ) ?_ | refine l_nil ?_ | refine c_region ?_ | refine c_seq ?_ | refine x_then ?_ | refine c_dec_t rfl (by first | omega ) ?_ | refine c_ret ?_ | refine x_then_ret ?_ )
    exact x_ret rfl rfl (by repeat (first | exact Res.nil | (apply Res.tmp; rfl) | (apply Res.cell; rfl; exact (by repeat (first | exact List.Mem.head _ | apply List.Mem.tail)); rfl; rfl))) rfl (fun W hW => ⟨hW.below, .inl ⟨hl, by first | (rw [hz]; done) | (rw [hz]; rfl)⟩⟩)
end R41
end Go.Proofs
