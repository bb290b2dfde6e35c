/- Collating: the laws' own small functions. -/
import Derived.Test.YtobiefdkpiognaaClG
set_option linter.unusedSectionVars false
set_option linter.unusedVariables false
set_option linter.unusedSimpArgs false
namespace Go.Proofs
open Go.RowKit Go.Kin Go.Kin.Cl
namespace R41
theorem rank_calls (x : Int × Int) (w : World) : Calls Try.prog 50 ⟨[.agg ⟨pQ x⟩]⟩ w fun e w' => e = .returned (.int .i64 (rankP x)) ∧ Below w.heap.size w w' := by
  obtain ⟨p, q⟩ := x
  refine fun_enter Try.func50 rfl Try.ntmps50 rfl rfl (satW_nil w) ?_
  by_cases h1 : q = 0
  · have hv : rankP (p, q) = 1 := if_pos h1
    repeat (first | refine l_val rfl rfl (by first | exact pureEval_ok rfl | exact v_load rfl (by repeat (first | exact List.Mem.head _ | apply List.Mem.tail)) rfl (by rfl) | exact v_indexA rfl rfl rfl rfl (by omega) (by omega) (by with_reducible first | exact idx5 _  ) ) ?_ | refine l_nil ?_ | refine c_region ?_ | refine c_seq ?_ | refine x_then ?_ | refine r_box rfl rfl rfl rfl (fun _ => ?_) | refine c_dec_t rfl (by first | omega ) ?_ | refine c_ret ?_ | refine x_then_ret ?_ )
    exact x_ret rfl rfl (by repeat (first | exact Res.nil | (apply Res.tmp; rfl) | (apply Res.cell; rfl; exact (by repeat (first | exact List.Mem.head _ | apply List.Mem.tail)); rfl; rfl))) rfl (fun W hW => ⟨by rw [hv], hW.below⟩)
  by_cases h2 : p = 0
  · have hv : rankP (p, q) = 2 := by unfold rankP; rw [if_neg h1, if_pos h2]
    repeat (first | refine l_val rfl rfl (by first | exact pureEval_ok rfl | exact v_load rfl (by repeat (first | exact List.Mem.head _ | apply List.Mem.tail)) rfl (by rfl) | exact v_indexA rfl rfl rfl rfl (by omega) (by omega) (by with_reducible first | exact idx5 _  ) ) ?_ | refine l_nil ?_ | refine c_region ?_ | refine c_seq ?_ | refine x_then ?_ | refine r_box rfl rfl rfl rfl (fun _ => ?_) | refine c_dec_t rfl (by first | omega ) ?_ | refine c_dec_f rfl (by first | omega ) ?_ | refine c_skip ?_ | refine c_ret ?_ | refine x_then_ret ?_ )
    exact x_ret rfl rfl (by repeat (first | exact Res.nil | (apply Res.tmp; rfl) | (apply Res.cell; rfl; exact (by repeat (first | exact List.Mem.head _ | apply List.Mem.tail)); rfl; rfl))) rfl (fun W hW => ⟨by rw [hv], hW.below⟩)
  have hv : rankP (p, q) = 0 := by unfold rankP; rw [if_neg h1, if_neg h2]
  repeat (first | refine l_val rfl rfl (by first | exact pureEval_ok rfl | exact v_load rfl (by repeat (first | exact List.Mem.head _ | apply List.Mem.tail)) rfl (by rfl) | exact v_indexA rfl rfl rfl rfl (by omega) (by omega) (by with_reducible first | exact idx5 _  ) ) ?_ | refine l_nil ?_ | refine c_region ?_ | refine c_seq ?_ | refine x_then ?_ | refine r_box rfl rfl rfl rfl (fun _ => ?_) | refine c_dec_f rfl (by first | omega ) ?_ | refine c_skip ?_ | refine c_ret ?_ )
  exact x_ret rfl rfl (by repeat (first | exact Res.nil | (apply Res.tmp; rfl) | (apply Res.cell; rfl; exact (by repeat (first | exact List.Mem.head _ | apply List.Mem.tail)); rfl; rfl))) rfl (fun W hW => ⟨by rw [hv], hW.below⟩)
def fewL (n : Nat) : Bool := decide (n ≤ 16 ∨ (64 < n ∧ n ≤ 200))
theorem few_calls (A : Option Addr) (n cap : Nat) (w : World) : Calls Try.prog 25 ⟨[.slice A n cap]⟩ w fun e w' => e = .returned (.bool (fewL n)) ∧ Below w.heap.size w w' := by
  refine fun_enter Try.func25 rfl Try.ntmps25 rfl rfl (satW_nil w) ?_
  by_cases h1 : n ≤ 16
  · have hv : fewL n = true := decide_eq_true (.inl h1)
    repeat (first | refine l_val rfl rfl (by first | exact pureEval_ok rfl ) ?_ | refine l_nil ?_ | refine c_region ?_ | refine c_seq ?_ | refine x_then ?_ | refine l_skip rfl rfl ?_ | refine c_ret ?_ | refine l_dec_t rfl rfl rfl rfl rfl (by first | omega ) ?_ )
    exact x_ret rfl rfl (by repeat (first | exact Res.nil | (apply Res.tmp; rfl) | (apply Res.cell; rfl; exact (by repeat (first | exact List.Mem.head _ | apply List.Mem.tail)); rfl; rfl))) rfl (fun W hW => ⟨by rw [hv], hW.below⟩)
  by_cases h2 : 64 < n
  · have hv : fewL n = decide ((n : Int) ≤ 200) := decide_eq_decide.2 (by omega)
    repeat (first | refine l_val rfl rfl (by first | exact pureEval_ok rfl ) ?_ | refine l_nil ?_ | refine c_region ?_ | refine c_seq ?_ | refine x_then ?_ | refine c_ret ?_ | refine l_dec_t rfl rfl rfl rfl rfl (by first | omega ) ?_ | refine l_dec_f rfl rfl rfl rfl rfl (by first | omega ) ?_ )
    exact x_ret rfl rfl (by repeat (first | exact Res.nil | (apply Res.tmp; rfl) | (apply Res.cell; rfl; exact (by repeat (first | exact List.Mem.head _ | apply List.Mem.tail)); rfl; rfl))) rfl (fun W hW => ⟨by rw [hv], hW.below⟩)
  have hv : fewL n = false := decide_eq_false (by omega)
  repeat (first | refine l_val rfl rfl (by first | exact pureEval_ok rfl ) ?_ | refine l_nil ?_ | refine c_region ?_ | refine c_seq ?_ | refine x_then ?_ | refine l_skip rfl rfl ?_ | refine c_ret ?_ | refine l_dec_f rfl rfl rfl rfl rfl (by first | omega ) ?_ )
  exact x_ret rfl rfl (by repeat (first | exact Res.nil | (apply Res.tmp; rfl) | (apply Res.cell; rfl; exact (by repeat (first | exact List.Mem.head _ | apply List.Mem.tail)); rfl; rfl))) rfl (fun W hW => ⟨by rw [hv], hW.below⟩)
theorem drop_getA {α : Type} {l : List α} {i : Nat} {x : α} (h : l[i]? = some x) : l.drop i = x :: l.drop (i + 1) := by
  obtain ⟨h1, h2⟩ := List.getElem?_eq_some_iff.1 h
  rw [List.drop_eq_getElem_cons h1, h2]
theorem firstP_drop {p q : List (Int × Int)} : ∀ (k : Nat), p.take k = q.take k → k ≤ p.length → k ≤ q.length → firstP p q = firstP (p.drop k) (q.drop k)
  | 0, _, _, _ => rfl
  | k + 1, h, hp, hq => by
    cases p with
    | nil => simp at hp
    | cons x p =>
      cases q with
      | nil => simp at hq
      | cons y q =>
        simp only [List.take_succ_cons, List.cons.injEq] at h
        simp only [List.length_cons] at hp hq
        rw [List.drop_succ_cons, List.drop_succ_cons, ← firstP_drop k h.2 (by omega) (by omega)]
        show (if x = y then _ else _) = _
        rw [if_pos h.1]
set_option maxHeartbeats 4000000 in
theorem first_calls (T U : Option Addr) (capT capU : Nat) (t u : List (Int × Int)) (w : World) (ht : t.length ≤ 9223372036854775807) (hu : u.length ≤ 9223372036854775807) (hT : Kin.At w T 2 (t.map pQ)) (hU : Kin.At w U 2 (u.map pQ)) :
    Calls Try.prog 30 ⟨[.slice T t.length capT, .slice U u.length capU]⟩ w fun e w' => e = .returned (.bool (firstP t u)) ∧ Below w.heap.size w w' := by
  refine fun_enter Try.func30 rfl Try.ntmps30 rfl rfl (satW_nil w) ?_
  repeat (first | refine l_val rfl rfl (by first | exact pureEval_ok rfl ) ?_ | refine l_nil ?_ | refine c_region ?_ | refine c_seq ?_ | refine x_then ?_ | refine c_block ?_ )
  refine c_loop (ι := Nat) (fun k => k ≤ t.length ∧ (Unit → firstP t u = firstP (t.drop k) (u.drop k))) (fun k => [(0, .slice T t.length capT), (1, .slice U u.length capU), (4, .bool false), (6, .slice T t.length capT), (7, .int .i64 t.length), (8, .int .i64 k)]) (fun _ => []) (fun k => t.length - k) 0 ⟨by omega, fun _ => rfl⟩ (by repeat (first | exact EnvSub.nil | refine EnvSub.cons rfl (by first | rfl | (congr 1; done) | (exact congrArg (Value.int _) (by omega)) | (simp; done)) ?_)) (by repeat (first | exact MSub.nil | refine MSub.keep (by first | rfl | assumption) ?_ | refine MSub.drop ?_ | exact MSub.refl _)) ?_
  rintro k ⟨hk, hM⟩
  by_cases hlt : k < t.length
  · obtain ⟨x, hx⟩ : ∃ x, t[k]? = some x := ⟨_, List.getElem?_eq_getElem hlt⟩
    have dt : t.drop k = x :: t.drop (k + 1) := drop_getA hx
    by_cases hlu : k < u.length
    · obtain ⟨y, hy⟩ : ∃ y, u[k]? = some y := ⟨_, List.getElem?_eq_getElem hlu⟩
      have du : u.drop k = y :: u.drop (k + 1) := drop_getA hy
      obtain ⟨b1, o1, rfl, e1⟩ := ext_at hT hx
      obtain ⟨b2, o2, rfl, e2⟩ := ext_at hU hy
      have g1 := ext_of e1
      have g2 := ext_of e2
      by_cases hxy : x = y
      · have s1 : x.1 = y.1 := by rw [hxy]
        have s2 : x.2 = y.2 := by rw [hxy]
        have hn : Unit → firstP t u = firstP (t.drop (k + 1)) (u.drop (k + 1)) := fun _ => by rw [hM (), dt, du]; show (if x = y then _ else _) = _; rw [if_pos hxy]
        repeat (first | refine l_val rfl rfl (by first | exact v_add rfl rfl (by omega) (by omega) | exact pureEval_ok rfl ) ?_ | refine l_nil ?_ | refine c_region ?_ | refine c_seq ?_ | refine x_then ?_ | refine c_dec_t rfl (by first | omega ) ?_ | refine c_block ?_ | refine c_skip ?_ | refine x_block ?_ | refine c_reads rfl (by decide +kernel) ?_ | refine q_val rfl rfl (by first | exact pureEval_ok rfl | exact v_load_ext0 rfl (by assumption) rfl (by rfl) | exact v_index rfl rfl rfl rfl (by omega) (by omega) (by with_reducible first | exact idx4 _ _ _  ) ) ?_ | refine q_nil ?_ | refine q_dec_t rfl rfl rfl rfl (by first | omega ) ?_ | refine c_nand_f rfl (by first | omega ) (by first | omega ) ?_ | (refine q_val rfl rfl (v_neA2 rfl rfl rfl rfl eg62) ?_) )
        exact x_back (k + 1) ⟨hlt, hn⟩ (by omega) (by repeat (first | exact EnvSub.nil | refine EnvSub.cons rfl (by first | rfl | (congr 1; done) | (exact congrArg (Value.int _) (by omega)) | (simp; done)) ?_)) (by repeat (first | exact MSub.nil | refine MSub.keep (by first | rfl | assumption) ?_ | refine MSub.drop ?_ | exact MSub.refl _))
      · have hv : firstP t u = decide (rankP x < rankP y) := by rw [hM (), dt, du]; show (if x = y then _ else _) = _; rw [if_neg hxy]
        have hne : ¬ (x.1 = y.1 ∧ x.2 = y.2) := fun h => hxy (Prod.ext h.1 h.2)
        by_cases s1 : x.1 = y.1
        · have s2 : ¬ x.2 = y.2 := fun h => hne ⟨s1, h⟩
          clear hne hxy
          repeat (first | refine l_val rfl rfl (by first | exact pureEval_ok rfl ) ?_ | refine l_nil ?_ | refine c_region ?_ | refine c_seq ?_ | refine x_then ?_ | refine c_dec_t rfl (by first | omega ) ?_ | refine c_block ?_ | refine c_skip ?_ | refine c_reads rfl (by decide +kernel) ?_ | refine q_val rfl rfl (by first | exact pureEval_ok rfl | exact v_load_ext0 rfl (by assumption) rfl (by rfl) | exact v_index rfl rfl rfl rfl (by omega) (by omega) (by with_reducible first | exact idx4 _ _ _  ) ) ?_ | refine q_nil ?_ | refine q_dec_t rfl rfl rfl rfl (by first | omega ) ?_ | refine c_nand_t rfl (by first | omega ) ?_ | (refine q_val rfl rfl (v_neA2 rfl rfl rfl rfl eg62) ?_) )
          refine q_call rfl rfl rfl (fun W hW => rank_calls x W) ?_
          repeat (first | refine q_val rfl rfl (by first | exact pureEval_ok rfl | exact v_load_ext0 rfl (by assumption) rfl (by rfl) | exact v_index rfl rfl rfl rfl (by omega) (by omega) (by with_reducible first | exact idx4 _ _ _  ) ) ?_ )
          refine q_call rfl rfl rfl (fun W hW => rank_calls y W) ?_
          repeat (first | refine x_then ?_ | refine c_ret ?_ | refine x_then_ret ?_ | refine x_block_ret ?_ | refine q_val rfl rfl (by first | exact pureEval_ok rfl ) ?_ | refine q_nil ?_ )
          exact x_ret rfl rfl (by repeat (first | exact Res.nil | (apply Res.tmp; rfl) | (apply Res.cell; rfl; exact (by repeat (first | exact List.Mem.head _ | apply List.Mem.tail)); rfl; rfl))) rfl (fun W hW => ⟨by rw [hv], hW.below⟩)
        · clear hne hxy
          repeat (first | refine l_val rfl rfl (by first | exact pureEval_ok rfl ) ?_ | refine l_nil ?_ | refine c_region ?_ | refine c_seq ?_ | refine x_then ?_ | refine c_dec_t rfl (by first | omega ) ?_ | refine c_block ?_ | refine c_skip ?_ | refine c_reads rfl (by decide +kernel) ?_ | refine q_val rfl rfl (by first | exact pureEval_ok rfl | exact v_load_ext0 rfl (by assumption) rfl (by rfl) | exact v_index rfl rfl rfl rfl (by omega) (by omega) (by with_reducible first | exact idx4 _ _ _  ) ) ?_ | refine q_nil ?_ | refine q_dec_t rfl rfl rfl rfl (by first | omega ) ?_ | refine c_nand_t rfl (by first | omega ) ?_ | (refine q_val rfl rfl (v_neA2 rfl rfl rfl rfl eg62) ?_) )
          refine q_call rfl rfl rfl (fun W hW => rank_calls x W) ?_
          repeat (first | refine q_val rfl rfl (by first | exact pureEval_ok rfl | exact v_load_ext0 rfl (by assumption) rfl (by rfl) | exact v_index rfl rfl rfl rfl (by omega) (by omega) (by with_reducible first | exact idx4 _ _ _  ) ) ?_ )
          refine q_call rfl rfl rfl (fun W hW => rank_calls y W) ?_
          repeat (first | refine x_then ?_ | refine c_ret ?_ | refine x_then_ret ?_ | refine x_block_ret ?_ | refine q_val rfl rfl (by first | exact pureEval_ok rfl ) ?_ | refine q_nil ?_ )
          exact x_ret rfl rfl (by repeat (first | exact Res.nil | (apply Res.tmp; rfl) | (apply Res.cell; rfl; exact (by repeat (first | exact List.Mem.head _ | apply List.Mem.tail)); rfl; rfl))) rfl (fun W hW => ⟨by rw [hv], hW.below⟩)
    · have hn : Unit → firstP t u = firstP (t.drop (k + 1)) (u.drop (k + 1)) := fun _ => by
        rw [hM (), dt, List.drop_eq_nil_of_le (show u.length ≤ k by omega), List.drop_eq_nil_of_le (show u.length ≤ k + 1 by omega)]
        cases t.drop (k + 1) <;> rfl
      repeat (first | refine l_val rfl rfl (by first | exact v_add rfl rfl (by omega) (by omega) | exact pureEval_ok rfl ) ?_ | refine l_nil ?_ | refine c_region ?_ | refine c_seq ?_ | refine x_then ?_ | refine c_false rfl ?_ | refine c_dec_t rfl (by first | omega ) ?_ | refine c_block ?_ | refine c_skip ?_ | refine x_block ?_ | refine c_reads rfl (by decide +kernel) ?_ | refine q_val rfl rfl (by first | exact pureEval_ok rfl ) ?_ | refine q_nil ?_ | refine q_skip rfl rfl ?_ | refine q_dec_f rfl rfl rfl rfl (by first | omega ) ?_ )
      exact x_back (k + 1) ⟨hlt, hn⟩ (by omega) (by repeat (first | exact EnvSub.nil | refine EnvSub.cons rfl (by first | rfl | (congr 1; done) | (exact congrArg (Value.int _) (by omega)) | (simp; done)) ?_)) (by repeat (first | exact MSub.nil | refine MSub.keep (by first | rfl | assumption) ?_ | refine MSub.drop ?_ | exact MSub.refl _))
  · have hkl : k = t.length := by omega
    have hv : firstP t u = false := by rw [hM (), hkl, List.drop_length]; cases u.drop t.length <;> rfl
    repeat (first | refine l_val rfl rfl (by first | exact pureEval_ok rfl ) ?_ | refine l_nil ?_ | refine c_region ?_ | refine c_seq ?_ | refine x_then ?_ | refine c_dec_f rfl (by first | omega ) ?_ | refine c_ret ?_ | refine c_exit ?_ | refine x_then_exit ?_ | refine x_block_same ?_ )
    exact x_ret rfl rfl (by repeat (first | exact Res.nil | (apply Res.tmp; rfl) | (apply Res.cell; rfl; exact (by repeat (first | exact List.Mem.head _ | apply List.Mem.tail)); rfl; rfl))) rfl (fun W hW => ⟨by rw [hv], hW.below⟩)
end R41
end Go.Proofs
