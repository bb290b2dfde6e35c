/- Clocks: Check, in the program. -/
import Derived.Test.YtjagcijgfmclhaaTpD
set_option linter.unusedSectionVars false
set_option linter.unusedVariables false
set_option linter.unusedSimpArgs false
namespace Go.Proofs
open Go.RowKit Go.Kin Go.Kin.Tm
namespace R13
theorem check_calls (c : Clk) (w : World) (hl1 : c.ts.length ≤ 5000) (hl2 : c.ps.length ≤ 5000) (hl3 : c.sp.length ≤ 5000) (hA : c.In w) :
    Calls Try.prog 16 ⟨[.agg ⟨c.v⟩]⟩ w fun e w' => e = .returned (.int .i64 (chk c.n c.ts c.ps c.sp)) ∧ Below w.heap.size w w' := by
  obtain ⟨k, hk⟩ : ∃ k, chk c.n c.ts c.ps c.sp = k := ⟨_, rfl⟩
  have hv := fun W (hA : c.In W) => validate_calls c W hl1 hl2 hl3 hA
  rw [hk] at hv ⊢
  refine fun_enter Try.func16 rfl Try.ntmps16 rfl rfl (satW_nil w) ?_
  repeat (first | refine l_val rfl rfl (by first | exact pureEval_ok rfl ) ?_ | refine l_nil ?_ | refine c_region ?_ | refine c_seq ?_ | refine x_then ?_ | refine r_box rfl rfl rfl rfl (fun _ => ?_) | refine r_alloc rfl rfl rfl (by first | exact aggL ) (fun _ => ?_) )
  refine l_defer rfl rfl rfl rfl ?_
  repeat (first | refine l_val rfl rfl (by first | exact v_load rfl (by repeat (first | exact List.Mem.head _ | apply List.Mem.tail)) rfl (by rfl) ) ?_ | refine l_nil ?_ | refine c_region ?_ | refine c_seq ?_ | refine x_then ?_ )
  rename_i b1 b2
  by_cases h0 : k = 0
  · subst h0
    refine r_call rfl rfl rfl (fun W hW => hv W (hA.sat hW)) ?_
    repeat (first | refine l_nil ?_ | refine c_region ?_ | refine c_seq ?_ | refine x_then ?_ | refine r_store rfl rfl rfl rfl rfl rfl rfl (by repeat (first | exact Upd.head | apply Upd.tail)) (by rfl) ?_ | refine c_ret ?_ )
    exact x_ret_d rfl (fun W => by simp only [invoke]; rw [Ent.ok (P := Try.prog) (f := 34)]; rfl) (fun W hW => door_idle hW) rfl (fun _ => (by repeat (first | exact Res.nil | (apply Res.tmp; rfl) | (apply Res.cell; rfl; exact (by repeat (first | exact List.Mem.head _ | apply List.Mem.tail)); rfl; rfl)))) (fun _ => rfl) (fun _ W hW => ⟨rfl, hW.below⟩)
  · refine r_callP (ch := pan k) rfl rfl (fun W hW => (hv W (hA.sat hW)).mono fun e W' h => ⟨h.1.trans (if_neg h0), h.2⟩) ?_
    repeat (first | refine x_then_panic ?_ | refine x_block_panic ?_ | refine x_scope_panic ?_)
    exact x_panic_d rfl (fun W => by simp only [invoke]; rw [Ent.ok (P := Try.prog) (f := 34)]; rfl) (fun W hW => door_pan hW) rfl (fun _ => (by repeat (first | exact Res.nil | (apply Res.tmp; rfl) | (apply Res.cell; rfl; exact (by repeat (first | exact List.Mem.head _ | apply List.Mem.tail)); rfl; rfl)))) (fun _ => rfl) (fun _ W hW => ⟨rfl, hW.below⟩)
end R13
end Go.Proofs
