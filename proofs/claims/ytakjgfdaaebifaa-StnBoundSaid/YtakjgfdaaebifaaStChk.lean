/- Check, in the program and in the specification. -/
import Derived.Test.YtakjgfdaaebifaaStIt
set_option linter.unusedSectionVars false
set_option linter.unusedVariables false
set_option linter.unusedSimpArgs false
namespace Go.Proofs
open Go.RowKit Go.Kin Go.Kin.St
namespace R22
/-- What Check answers. -/
def chk (n : Int) (l : List Lk) : Int := if n < 1 ∨ 64 < n then 1 else if 256 < l.length then 2 else if Fine n l then 0 else 220
theorem chk_1 {n : Int} {l : List Lk} (h : n < 1 ∨ 64 < n) : chk n l = 1 := if_pos h
theorem chk_2 {n : Int} {l : List Lk} (h : ¬ (n < 1 ∨ 64 < n)) (h2 : 256 < l.length) : chk n l = 2 := by unfold chk; rw [if_neg h, if_pos h2]
theorem chk_0 {n : Int} {l : List Lk} (h : ¬ (n < 1 ∨ 64 < n)) (h2 : ¬ 256 < l.length) (h3 : Fine n l) : chk n l = 0 := by unfold chk; rw [if_neg h, if_neg h2, if_pos h3]
theorem chk_220 {n : Int} {l : List Lk} (h : ¬ (n < 1 ∨ 64 < n)) (h2 : ¬ 256 < l.length) (h3 : ¬ Fine n l) : chk n l = 220 := by unfold chk; rw [if_neg h, if_neg h2, if_neg h3]

theorem right_calls (n : Int) (A : Option Addr) (cap : Nat) (l : List Lk) (w : World) (hl : l.length ≤ 1000) (hA : At w A 4 (l.map lkE)) :
    Calls Try.prog 31 ⟨[.int .i64 n, .slice A l.length cap]⟩ w fun e w' => e = .returned (.bool (decide (Fine n l))) ∧ Below w.heap.size w w' := by
  refine fun_enter Try.func31 rfl Try.ntmps31 rfl rfl (satW_nil w) ?_
  repeat (first | refine l_val rfl rfl (by first | exact pureEval_ok rfl ) ?_ | refine l_nil ?_ | refine c_region ?_ | refine c_seq ?_ | refine x_then ?_ | refine c_block ?_ )
  refine c_loop (ι := Nat) (fun k => k ≤ l.length ∧ ∀ x ∈ l.take k, x.Fine n) (fun k => [(0, .int .i64 n), (1, .slice A l.length cap), (5, .int .i64 k)]) (fun _ => []) (fun k => l.length - k) 0 ⟨by omega, by simp⟩ (by repeat (first | exact EnvSub.nil | refine EnvSub.cons rfl (by first | rfl | (congr 1; done) | (exact congrArg (Value.int _) (by omega)) | (simp; done)) ?_)) (by repeat (first | exact MSub.nil | refine MSub.keep (by first | rfl | assumption) ?_ | refine MSub.drop ?_ | exact MSub.refl _)) ?_
  rintro k ⟨hk, hF⟩
  by_cases hlt : k < l.length
  · obtain ⟨x, hx⟩ : ∃ x, l[k]? = some x := ⟨_, List.getElem?_eq_getElem hlt⟩
    obtain ⟨b, o, rfl, hc⟩ := hA k (lkE x) (by simp [hx])
    have he := ext_of hc
    have hin : x ∈ l := List.mem_of_getElem? hx
    repeat' (first | refine l_val rfl rfl (by first | exact v_add rfl rfl (by omega) (by omega) | exact pureEval_ok rfl | exact v_load rfl (by repeat (first | exact List.Mem.head _ | apply List.Mem.tail)) rfl (by rfl) | exact v_load_ext0 rfl (by assumption) rfl (by rfl) | exact v_index rfl rfl rfl rfl (by omega) (by omega) (by with_reducible first | exact idx4 _ _ _  ) ) ?_ | refine l_nil ?_ | refine c_region ?_ | refine c_seq ?_ | refine x_then ?_ | refine l_skip rfl rfl ?_ | refine r_alloc rfl rfl rfl (by first | rfl ) (fun _ => ?_) | refine r_store rfl rfl rfl rfl rfl rfl rfl (by repeat (first | exact Upd.head | apply Upd.tail)) (by rfl) ?_ | refine c_true rfl ?_ | refine c_dec_t rfl (by first | omega ) ?_ | refine c_block ?_ | refine c_skip ?_ | refine c_ret ?_ | refine x_then_ret ?_ | refine x_block ?_ | refine x_block_ret ?_ | refine l_dec rfl rfl rfl rfl rfl (fun _ => ?_) (fun _ => ?_) | refine c_dec rfl (fun _ => ?_) (fun _ => ?_) )
    all_goals first
      | (refine x_ret rfl rfl (by repeat (first | exact Res.nil | (apply Res.tmp; rfl) | (apply Res.cell; rfl; exact (by repeat (first | exact List.Mem.head _ | apply List.Mem.tail)); rfl; rfl))) rfl (fun W hW => ⟨?_, hW.below⟩)
         have hno : ¬ Fine n l := fun h => by have := h x hin; unfold Lk.Fine at this; omega
         rw [decide_eq_false hno])
      | (refine x_back (k + 1) ⟨hlt, ?_⟩ (by omega) (by repeat (first | exact EnvSub.nil | refine EnvSub.cons rfl (by first | rfl | (congr 1; done) | (exact congrArg (Value.int _) (by omega)) | (simp; done)) ?_)) (by repeat (first | exact MSub.nil | refine MSub.keep (by first | rfl | assumption) ?_ | refine MSub.drop ?_ | exact MSub.refl _))
         intro y hy
         rw [List.take_add_one, hx] at hy
         rcases List.mem_append.1 hy with h | h
         · exact hF y h
         · simp only [Option.toList_some, List.mem_singleton] at h
           rw [h]; unfold Lk.Fine; omega)
  · have hkl : k = l.length := by omega
    subst hkl
    rw [List.take_length] at hF
    repeat' (first | refine l_val rfl rfl (by first | exact pureEval_ok rfl ) ?_ | refine l_nil ?_ | refine c_region ?_ | refine c_seq ?_ | refine x_then ?_ | refine c_dec_f rfl (by first | omega ) ?_ | refine c_ret ?_ | refine c_exit ?_ | refine x_then_exit ?_ | refine x_block_same ?_ )
    refine x_ret rfl rfl (by repeat (first | exact Res.nil | (apply Res.tmp; rfl) | (apply Res.cell; rfl; exact (by repeat (first | exact List.Mem.head _ | apply List.Mem.tail)); rfl; rfl))) rfl (fun W hW => ⟨?_, hW.below⟩)
    have hyes : Fine n l := hF
    rw [decide_eq_true hyes]

theorem rcheck_calls (n : Int) (A : Option Addr) (cap : Nat) (l : List Lk) (w : World) (hl : l.length ≤ 1000) (hA : At w A 4 (l.map lkE)) :
    Calls Try.prog 17 ⟨[.agg ⟨netCells n A l.length cap⟩]⟩ w fun e w' => e = .returned (.int .i64 (chk n l)) ∧ Below w.heap.size w w' := by
  refine fun_enter Try.func17 rfl Try.ntmps17 rfl rfl (satW_nil w) ?_
  repeat' (first | refine l_val rfl rfl (by first | exact pureEval_ok rfl | exact v_load rfl (by repeat (first | exact List.Mem.head _ | apply List.Mem.tail)) rfl (by rfl) ) ?_ | refine l_nil ?_ | refine c_region ?_ | refine c_seq ?_ | refine x_then ?_ | refine l_skip rfl rfl ?_ | refine r_box rfl rfl rfl rfl (fun _ => ?_) | refine c_true rfl ?_ | refine c_skip ?_ | refine c_ret ?_ | refine x_then_ret ?_ | refine l_dec rfl rfl rfl rfl rfl (fun _ => ?_) (fun _ => ?_) | refine c_dec rfl (fun _ => ?_) (fun _ => ?_) )
  · refine x_ret rfl rfl (by repeat (first | exact Res.nil | (apply Res.tmp; rfl) | (apply Res.cell; rfl; exact (by repeat (first | exact List.Mem.head _ | apply List.Mem.tail)); rfl; rfl))) rfl (fun W hW => ⟨?_, hW.below⟩)
    rw [chk_1 (.inl (by assumption))]
  · refine x_ret rfl rfl (by repeat (first | exact Res.nil | (apply Res.tmp; rfl) | (apply Res.cell; rfl; exact (by repeat (first | exact List.Mem.head _ | apply List.Mem.tail)); rfl; rfl))) rfl (fun W hW => ⟨?_, hW.below⟩)
    rw [chk_1 (.inr (by assumption))]
  · refine x_ret rfl rfl (by repeat (first | exact Res.nil | (apply Res.tmp; rfl) | (apply Res.cell; rfl; exact (by repeat (first | exact List.Mem.head _ | apply List.Mem.tail)); rfl; rfl))) rfl (fun W hW => ⟨?_, hW.below⟩)
    rw [chk_2 (by omega) (by omega)]
  · refine r_call rfl rfl rfl (fun W hW => right_calls n A cap l W hl (hA.sat hW)) ?_
    by_cases hf : Fine n l
    · rw [decide_eq_true hf]
      repeat (first | refine l_val rfl rfl (by first | exact pureEval_ok rfl ) ?_ | refine l_nil ?_ | refine c_region ?_ | refine c_seq ?_ | refine x_then ?_ | refine c_false rfl ?_ | refine c_skip ?_ | refine c_ret ?_ )
      refine x_ret rfl rfl (by repeat (first | exact Res.nil | (apply Res.tmp; rfl) | (apply Res.cell; rfl; exact (by repeat (first | exact List.Mem.head _ | apply List.Mem.tail)); rfl; rfl))) rfl (fun W hW => ⟨?_, hW.below⟩)
      rw [chk_0 (by omega) (by omega) hf]
    · rw [decide_eq_false hf]
      repeat (first | refine l_val rfl rfl (by first | exact pureEval_ok rfl ) ?_ | refine l_nil ?_ | refine c_region ?_ | refine c_seq ?_ | refine x_then ?_ | refine c_true rfl ?_ | refine c_ret ?_ | refine x_then_ret ?_ )
      refine x_ret rfl rfl (by repeat (first | exact Res.nil | (apply Res.tmp; rfl) | (apply Res.cell; rfl; exact (by repeat (first | exact List.Mem.head _ | apply List.Mem.tail)); rfl; rfl))) rfl (fun W hW => ⟨?_, hW.below⟩)
      rw [chk_220 (by omega) (by omega) hf]

theorem check_calls (n : Int) (A : Option Addr) (cap : Nat) (l : List Lk) (w : World) (hl : l.length ≤ 1000) (hA : At w A 4 (l.map lkE)) :
    Calls Try.prog 16 ⟨[.agg ⟨netCells n A l.length cap⟩]⟩ w fun e w' => e = .returned (.int .i64 (chk n l)) ∧ Below w.heap.size w w' := by
  refine fun_enter Try.func16 rfl Try.ntmps16 rfl rfl (satW_nil w) ?_
  repeat' (first | refine l_val rfl rfl (by first | exact pureEval_ok rfl | exact v_load rfl (by repeat (first | exact List.Mem.head _ | apply List.Mem.tail)) rfl (by rfl) ) ?_ | refine l_nil ?_ | refine c_region ?_ | refine c_seq ?_ | refine x_then ?_ | refine l_skip rfl rfl ?_ | refine r_box rfl rfl rfl rfl (fun _ => ?_) | refine c_true rfl ?_ | refine c_block ?_ | refine c_skip ?_ | refine c_ret ?_ | refine x_then_ret ?_ | refine x_block ?_ | refine x_block_ret ?_ | refine l_dec rfl rfl rfl rfl rfl (fun _ => ?_) (fun _ => ?_) | refine c_dec rfl (fun _ => ?_) (fun _ => ?_) )
  · refine x_ret rfl rfl (by repeat (first | exact Res.nil | (apply Res.tmp; rfl) | (apply Res.cell; rfl; exact (by repeat (first | exact List.Mem.head _ | apply List.Mem.tail)); rfl; rfl))) rfl (fun W hW => ⟨?_, hW.below⟩)
    rw [chk_1 (.inl (by assumption))]
  · refine x_ret rfl rfl (by repeat (first | exact Res.nil | (apply Res.tmp; rfl) | (apply Res.cell; rfl; exact (by repeat (first | exact List.Mem.head _ | apply List.Mem.tail)); rfl; rfl))) rfl (fun W hW => ⟨?_, hW.below⟩)
    rw [chk_1 (.inr (by assumption))]
  · refine x_ret rfl rfl (by repeat (first | exact Res.nil | (apply Res.tmp; rfl) | (apply Res.cell; rfl; exact (by repeat (first | exact List.Mem.head _ | apply List.Mem.tail)); rfl; rfl))) rfl (fun W hW => ⟨?_, hW.below⟩)
    rw [chk_2 (by omega) (by omega)]
  · rename_i b h1 h2 h3
    refine c_loop (ι := Nat) (fun k => k ≤ l.length ∧ ∀ x ∈ l.take k, x.Fine n) (fun k => [(1, .pointer (some ⟨b, 0, none⟩)), (20, .slice A l.length cap), (21, .int .i64 l.length), (22, .int .i64 k)])
      (fun _ => [(b, .cells ⟨netCells n A l.length cap⟩ 24 (0, 0))]) (fun k => l.length - k) 0 ⟨by omega, by simp⟩ (by repeat (first | exact EnvSub.nil | refine EnvSub.cons rfl (by first | rfl | (congr 1; done) | (exact congrArg (Value.int _) (by omega)) | (simp; done)) ?_)) (by repeat (first | exact MSub.nil | refine MSub.keep (by first | rfl | assumption) ?_ | refine MSub.drop ?_ | exact MSub.refl _)) ?_
    rintro k ⟨hk, hF⟩
    by_cases hlt : k < l.length
    · obtain ⟨x, hx⟩ : ∃ x, l[k]? = some x := ⟨_, List.getElem?_eq_getElem hlt⟩
      obtain ⟨b, o, rfl, hc⟩ := hA k (lkE x) (by simp [hx])
      have he := ext_of hc
      have hin : x ∈ l := List.mem_of_getElem? hx
      repeat' (first | refine l_val rfl rfl (by first | exact v_add rfl rfl (by omega) (by omega) | exact pureEval_ok rfl | exact v_load rfl (by repeat (first | exact List.Mem.head _ | apply List.Mem.tail)) rfl (by rfl) | exact v_load_ext0 rfl (by assumption) rfl (by rfl) | exact v_index rfl rfl rfl rfl (by omega) (by omega) (by with_reducible first | exact idx4 _ _ _  ) ) ?_ | refine l_nil ?_ | refine c_region ?_ | refine c_seq ?_ | refine x_then ?_ | refine l_skip rfl rfl ?_ | refine r_alloc rfl rfl rfl (by first | rfl ) (fun _ => ?_) | refine r_store rfl rfl rfl rfl rfl rfl rfl (by repeat (first | exact Upd.head | apply Upd.tail)) (by rfl) ?_ | refine c_true rfl ?_ | refine c_dec_t rfl (by first | omega ) ?_ | refine c_block ?_ | refine c_skip ?_ | refine c_ret ?_ | refine x_then_ret ?_ | refine x_block ?_ | refine x_block_ret ?_ | refine l_dec rfl rfl rfl rfl rfl (fun _ => ?_) (fun _ => ?_) | refine c_dec rfl (fun _ => ?_) (fun _ => ?_) )
      all_goals first
        | (refine x_ret rfl rfl (by repeat (first | exact Res.nil | (apply Res.tmp; rfl) | (apply Res.cell; rfl; exact (by repeat (first | exact List.Mem.head _ | apply List.Mem.tail)); rfl; rfl))) rfl (fun W hW => ⟨?_, hW.below⟩)
           have hno : ¬ Fine n l := fun h => by have := h x hin; unfold Lk.Fine at this; omega
           rw [chk_220 (by omega) (by omega) hno])
        | (refine x_back (k + 1) ⟨hlt, ?_⟩ (by omega) (by repeat (first | exact EnvSub.nil | refine EnvSub.cons rfl (by first | rfl | (congr 1; done) | (exact congrArg (Value.int _) (by omega)) | (simp; done)) ?_)) (by repeat (first | exact MSub.nil | refine MSub.keep (by first | rfl | assumption) ?_ | refine MSub.drop ?_ | exact MSub.refl _))
           intro y hy
           rw [List.take_add_one, hx] at hy
           rcases List.mem_append.1 hy with h | h
           · exact hF y h
           · simp only [Option.toList_some, List.mem_singleton] at h
             rw [h]; unfold Lk.Fine; omega)
    · have hkl : k = l.length := by omega
      subst hkl
      rw [List.take_length] at hF
      repeat' (first | refine l_val rfl rfl (by first | exact pureEval_ok rfl ) ?_ | refine l_nil ?_ | refine c_region ?_ | refine c_seq ?_ | refine x_then ?_ | refine c_dec_f rfl (by first | omega ) ?_ | refine c_ret ?_ | refine c_exit ?_ | refine x_then_exit ?_ | refine x_block_same ?_ )
      refine x_ret rfl rfl (by repeat (first | exact Res.nil | (apply Res.tmp; rfl) | (apply Res.cell; rfl; exact (by repeat (first | exact List.Mem.head _ | apply List.Mem.tail)); rfl; rfl))) rfl (fun W hW => ⟨?_, hW.below⟩)
      have hyes : Fine n l := hF
      rw [chk_0 (by omega) (by omega) hyes]
end R22
end Go.Proofs
