/- Clocks: the deferred function of Check. -/
import Derived.Test.YtjagcijgfmclhaaTpB
set_option linter.unusedSectionVars false
set_option linter.unusedVariables false
set_option linter.unusedSimpArgs false
namespace Go.Proofs
open Go.RowKit Go.Kin Go.Kin.Tm
namespace R13
theorem iface20 : Try.prog.underlying 20 = some (.interface #[]) := by kernel_rfl
section
variable {w W : World} {J : (Nat → Prop) → World → Prop} {b b1 : Nat} {cs : List Value} {k k' : Int}
/-- nothing to recover -/
theorem door_idle (hW : SatW w (base w) J [(b, .cells ⟨[.int .i64 k]⟩ 29 (0, 0)), (b1, .cells ⟨cs⟩ 26 (0, 0))] W) :
    CallsDIn Fence.wide 0 Try.prog 34 ⟨[.pointer (some ⟨b, 0, none⟩)]⟩ .returning W fun e u' W' => (∃ r, e = .returned r) ∧ settle u' = .returning ∧ ∃ i : Unit, SatW w (base w) J [(b, .cells ⟨[.int .i64 k]⟩ 29 (0, 0)), (b1, .cells ⟨cs⟩ 26 (0, 0))] W' := by
  refine d_enter Try.func34 rfl Try.ntmps34 rfl rfl rfl hW .none ?_
  repeat (first | refine c_region ?_ | refine c_seq ?_ | refine c_block ?_ )
  refine l_val rfl rfl (v_eqNil iface20 rfl) ?_
  repeat (first | refine l_val rfl rfl (by first | exact pureEval_ok rfl ) ?_ | refine l_nil ?_ | refine c_region ?_ | refine x_then ?_ | refine c_true rfl ?_ | refine x_block ?_ )
  exact x_door rfl rfl (by repeat (first | exact Res.nil | (apply Res.tmp; rfl) | (apply Res.cell; rfl; exact (by repeat (first | exact List.Mem.head _ | apply List.Mem.tail)); rfl; rfl))) rfl (fun W hW => ⟨⟨_, rfl⟩, rfl, (), hW⟩)
/-- an error's number is recovered -/
theorem door_pan (hW : SatW w (base w) J [(b, .cells ⟨[.int .i64 k]⟩ 29 (0, 0)), (b1, .cells ⟨cs⟩ 26 (0, 0))] W) :
    CallsDIn Fence.wide 0 Try.prog 34 ⟨[.pointer (some ⟨b, 0, none⟩)]⟩ (.panicking (pan k')) W fun e u' W' => (∃ r, e = .returned r) ∧ settle u' = .returning ∧ ∃ i : Unit, SatW w (base w) J [(b, .cells ⟨[.int .i64 k']⟩ 29 (0, 0)), (b1, .cells ⟨cs⟩ 26 (0, 0))] W' := by
  refine d_enter Try.func34 rfl Try.ntmps34 rfl rfl rfl hW (.some _ _) ?_
  repeat (first | refine c_region ?_ | refine c_seq ?_ | refine c_block ?_ )
  refine l_val rfl rfl (v_eqNil_no iface20 rfl) ?_
  repeat (first | refine l_nil ?_ | refine c_region ?_ | refine c_seq ?_ | refine x_then ?_ | refine c_false rfl ?_ )
  refine l_val rfl rfl (v_assertOk rfl rfl rfl) ?_
  repeat (first | refine l_val rfl rfl (by first | exact pureEval_ok rfl ) ?_ | refine l_nil ?_ | refine c_region ?_ | refine c_seq ?_ | refine x_then ?_ | refine r_store rfl rfl rfl rfl rfl rfl rfl (by repeat (first | exact Upd.head | apply Upd.tail)) (by rfl) ?_ | refine c_true rfl ?_ | refine x_block ?_ )
  exact x_door rfl rfl (by repeat (first | exact Res.nil | (apply Res.tmp; rfl) | (apply Res.cell; rfl; exact (by repeat (first | exact List.Mem.head _ | apply List.Mem.tail)); rfl; rfl))) rfl (fun W hW => ⟨⟨_, rfl⟩, rfl, (), hW⟩)
end
end R13
end Go.Proofs
