/- Collating: lists of pairs and of rows compared; first, rank, lost, few. -/
import Derived.Test.YtobiefdkpiognaaClC
import Derived.Test.YtobiefdkpiognaaEng26
import Derived.Test.YtobiefdkpiognaaClPair
set_option linter.unusedSectionVars false
set_option linter.unusedVariables false
set_option linter.unusedSimpArgs false
namespace Go.Proofs
open Go.RowKit Go.Kin Go.Kin.Cl
namespace R41
@[reducible] def pQ (p : Int × Int) : List Value := [.int .i64 p.1, .int .i64 p.2]
theorem eg62 : Try.prog.eqGuardType Try.prog.depth 62 = false := by kernel_rfl
theorem SamePairs_calls (T U : Option Addr) (capT capU : Nat) (t u : List (Int × Int)) (w : World) (ht : t.length ≤ 100000) (hu : u.length ≤ 100000) (hT : Kin.At w T 2 (t.map pQ)) (hU : Kin.At w U 2 (u.map pQ)) :
    Calls Try.prog 28 ⟨[.slice T t.length capT, .slice U u.length capU]⟩ w fun e w' => e = .returned (.bool (decide (t = u))) ∧ Below w.heap.size w w' := by
  refine fun_enter Try.func28 rfl Try.ntmps28 rfl rfl (satW_nil w) ?_
  by_cases hlen : t.length = u.length
  rotate_left
  · have hno : ¬ t = u := fun e => by subst e; exact hlen rfl
    repeat (first | refine l_val rfl rfl (by first | exact pureEval_ok rfl ) ?_ | refine l_nil ?_ | refine c_region ?_ | refine c_seq ?_ | refine x_then ?_ | refine c_dec_t rfl (by first | omega ) ?_ | refine c_ret ?_ | refine x_then_ret ?_ )
    exact x_ret rfl rfl (by repeat (first | exact Res.nil | (apply Res.tmp; rfl) | (apply Res.cell; rfl; exact (by repeat (first | exact List.Mem.head _ | apply List.Mem.tail)); rfl; rfl))) rfl (fun W hW => ⟨by rw [decide_eq_false hno], hW.below⟩)
  repeat (first | refine l_val rfl rfl (by first | exact pureEval_ok rfl ) ?_ | refine l_nil ?_ | refine c_region ?_ | refine c_seq ?_ | refine x_then ?_ | refine c_dec_f rfl (by first | omega | exact fun h => h rfl ) ?_ | refine c_block ?_ | refine c_skip ?_ )
  refine c_loop (ι := Nat) (fun k => k ≤ t.length ∧ (Unit → t.take k = u.take k)) (fun k => [(0, .slice T t.length capT), (1, .slice U u.length capU), (4, .bool false), (5, .int .i64 k)]) (fun _ => []) (fun k => t.length - k) 0 ⟨by omega, fun _ => rfl⟩ (by repeat (first | exact EnvSub.nil | refine EnvSub.cons rfl (by first | rfl | (congr 1; done) | (exact congrArg (Value.int _) (by omega)) | (simp; done)) ?_)) (by repeat (first | exact MSub.nil | refine MSub.keep (by first | rfl | assumption) ?_ | refine MSub.drop ?_ | exact MSub.refl _)) ?_
  rintro k ⟨hk, hM⟩
  by_cases hlt : k < t.length
  · obtain ⟨x, hx⟩ : ∃ x, t[k]? = some x := ⟨_, List.getElem?_eq_getElem hlt⟩
    obtain ⟨y, hy⟩ : ∃ y, u[k]? = some y := ⟨_, List.getElem?_eq_getElem (by omega)⟩
    obtain ⟨b1, o1, rfl, e1⟩ := ext_at hT hx
    obtain ⟨b2, o2, rfl, e2⟩ := ext_at hU hy
    have g1 := ext_of e1
    have g2 := ext_of e2
    by_cases hxy : x = y
    · have s1 : x.1 = y.1 := by rw [hxy]
      have s2 : x.2 = y.2 := by rw [hxy]
      repeat (first | refine l_val rfl rfl (by first | exact v_add rfl rfl (by omega) (by omega) | exact pureEval_ok rfl ) ?_ | refine l_nil ?_ | refine c_region ?_ | refine c_seq ?_ | refine x_then ?_ | refine c_dec_t rfl (by first | omega ) ?_ | refine c_block ?_ | refine c_skip ?_ | refine x_block ?_ | refine c_reads rfl (by decide +kernel) ?_ | refine q_val rfl rfl (by first | exact pureEval_ok rfl | exact v_load_ext0 rfl (by assumption) rfl (by rfl) | exact v_index rfl rfl rfl rfl (by omega) (by omega) (by with_reducible first | exact idx4 _ _ _  ) ) ?_ | refine q_nil ?_ | refine c_nand_f rfl (by first | omega ) (by first | omega ) ?_ | (refine q_val rfl rfl (v_neA2 rfl rfl rfl rfl eg62) ?_) )
      refine x_back (k + 1) ⟨hlt, fun _ => ?_⟩ (by omega) (by repeat (first | exact EnvSub.nil | refine EnvSub.cons rfl (by first | rfl | (congr 1; done) | (exact congrArg (Value.int _) (by omega)) | (simp; done)) ?_)) (by repeat (first | exact MSub.nil | refine MSub.keep (by first | rfl | assumption) ?_ | refine MSub.drop ?_ | exact MSub.refl _))
      rw [List.take_add_one, List.take_add_one, hM (), hx, hy, hxy]
    · have hno : ¬ t = u := fun e => by subst e; rw [hx] at hy; cases hy; exact hxy rfl
      have hne : ¬ (x.1 = y.1 ∧ x.2 = y.2) := fun h => hxy (Prod.ext h.1 h.2)
      by_cases s1 : x.1 = y.1
      · have s2 : ¬ x.2 = y.2 := fun h => hne ⟨s1, h⟩
        clear hne hxy
        repeat (first | refine l_val rfl rfl (by first | exact pureEval_ok rfl ) ?_ | refine l_nil ?_ | refine c_region ?_ | refine c_seq ?_ | refine x_then ?_ | refine c_dec_t rfl (by first | omega ) ?_ | refine c_block ?_ | refine c_skip ?_ | refine c_ret ?_ | refine x_then_ret ?_ | refine x_block_ret ?_ | refine c_reads rfl (by decide +kernel) ?_ | refine q_val rfl rfl (by first | exact pureEval_ok rfl | exact v_load_ext0 rfl (by assumption) rfl (by rfl) | exact v_index rfl rfl rfl rfl (by omega) (by omega) (by with_reducible first | exact idx4 _ _ _  ) ) ?_ | refine q_nil ?_ | refine c_nand_t rfl (by first | omega ) ?_ | (refine q_val rfl rfl (v_neA2 rfl rfl rfl rfl eg62) ?_) )
        exact x_ret rfl rfl (by repeat (first | exact Res.nil | (apply Res.tmp; rfl) | (apply Res.cell; rfl; exact (by repeat (first | exact List.Mem.head _ | apply List.Mem.tail)); rfl; rfl))) rfl (fun W hW => ⟨by rw [decide_eq_false hno], hW.below⟩)
      · clear hne hxy
        repeat (first | refine l_val rfl rfl (by first | exact pureEval_ok rfl ) ?_ | refine l_nil ?_ | refine c_region ?_ | refine c_seq ?_ | refine x_then ?_ | refine c_dec_t rfl (by first | omega ) ?_ | refine c_block ?_ | refine c_skip ?_ | refine c_ret ?_ | refine x_then_ret ?_ | refine x_block_ret ?_ | refine c_reads rfl (by decide +kernel) ?_ | refine q_val rfl rfl (by first | exact pureEval_ok rfl | exact v_load_ext0 rfl (by assumption) rfl (by rfl) | exact v_index rfl rfl rfl rfl (by omega) (by omega) (by with_reducible first | exact idx4 _ _ _  ) ) ?_ | refine q_nil ?_ | refine c_nand_t rfl (by first | omega ) ?_ | (refine q_val rfl rfl (v_neA2 rfl rfl rfl rfl eg62) ?_) )
        exact x_ret rfl rfl (by repeat (first | exact Res.nil | (apply Res.tmp; rfl) | (apply Res.cell; rfl; exact (by repeat (first | exact List.Mem.head _ | apply List.Mem.tail)); rfl; rfl))) rfl (fun W hW => ⟨by rw [decide_eq_false hno], hW.below⟩)
  · have hkl : k = t.length := by omega
    subst hkl
    have hyes : t = u := by have := hM (); rw [List.take_length, hlen, List.take_length] at this; exact this
    repeat (first | refine l_val rfl rfl (by first | exact pureEval_ok rfl ) ?_ | refine l_nil ?_ | refine c_region ?_ | refine c_seq ?_ | refine x_then ?_ | refine c_dec_f rfl (by first | omega ) ?_ | refine c_ret ?_ | refine c_exit ?_ | refine x_then_exit ?_ | refine x_block_same ?_ )
    exact x_ret rfl rfl (by repeat (first | exact Res.nil | (apply Res.tmp; rfl) | (apply Res.cell; rfl; exact (by repeat (first | exact List.Mem.head _ | apply List.Mem.tail)); rfl; rfl))) rfl (fun W hW => ⟨by rw [decide_eq_true hyes], hW.below⟩)
end R41
end Go.Proofs
