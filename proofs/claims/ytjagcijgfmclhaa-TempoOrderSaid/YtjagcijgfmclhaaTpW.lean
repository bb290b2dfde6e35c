/- Clocks: few. -/
import Derived.Test.YtjagcijgfmclhaaTpR
set_option linter.unusedSectionVars false
set_option linter.unusedVariables false
set_option linter.unusedSimpArgs false
namespace Go.Proofs
open Go.RowKit Go.Kin Go.Kin.Tm
namespace R13
/-! ## Few -/
def lim3 (n : Nat) (c : Clk) : Bool := decide (c.ts.length ≤ n ∧ c.ps.length ≤ n ∧ c.sp.length ≤ n)
def over (c : Clk) : Bool := decide (4096 < c.ts.length ∨ 4096 < c.ps.length ∨ 256 < c.sp.length)
def fewB (c : Clk) : Bool := lim3 60 c || (lim3 5000 c && over c)
theorem few_sm {c : Clk} (h : fewB c = true) : c.Sm := by
  simp only [fewB, lim3, over, Bool.or_eq_true, Bool.and_eq_true, decide_eq_true_eq] at h
  exact ⟨by omega, by omega, by omega⟩
theorem lim3_t {n : Nat} {c : Clk} (h : (c.ts.length : Int) ≤ n ∧ (c.ps.length : Int) ≤ n ∧ (c.sp.length : Int) ≤ n) : lim3 n c = true := decide_eq_true (by omega)
theorem lim3_f {n : Nat} {c : Clk} (h : ¬ ((c.ts.length : Int) ≤ n ∧ (c.ps.length : Int) ≤ n ∧ (c.sp.length : Int) ≤ n)) : lim3 n c = false := decide_eq_false (by omega)
theorem lim3_d {n : Nat} {c : Clk} (h : (c.ts.length : Int) ≤ n ∧ (c.ps.length : Int) ≤ n) : lim3 n c = decide ((c.sp.length : Int) ≤ n) := decide_eq_decide.2 (by omega)
set_option maxRecDepth 100000 in
set_option maxHeartbeats 4000000 in
theorem Few_calls (c : Clk) (w : World) : Calls Try.prog 11 ⟨[.agg ⟨c.v⟩]⟩ w fun e w' => e = .returned (.bool (fewB c)) ∧ Below w.heap.size w w' := by
  have h1t := fun (_ : Unit) => lim3_t (n := 60) (c := c)
  have h1f := fun (_ : Unit) => lim3_f (n := 60) (c := c)
  have h1d := fun (_ : Unit) => lim3_d (n := 60) (c := c)
  have h2t := fun (_ : Unit) => lim3_t (n := 5000) (c := c)
  have h2f := fun (_ : Unit) => lim3_f (n := 5000) (c := c)
  have h2d := fun (_ : Unit) => lim3_d (n := 5000) (c := c)
  have hB : fewB c = (lim3 60 c || (lim3 5000 c && over c)) := rfl
  have hO : Unit → over c = decide (4096 < c.ts.length ∨ 4096 < c.ps.length ∨ 256 < c.sp.length) := fun _ => rfl
  rw [hB]
  clear hB
  generalize lim3 60 c = F1 at *
  generalize lim3 5000 c = F2 at *
  generalize over c = F3 at *
  refine fun_enter Try.func11 rfl Try.ntmps11 rfl rfl (satW_nil w) ?_
  repeat ((fail_if_success refine c_probe (id := 1) ?_); (fail_if_success refine c_probe1 (id := 1) ?_); first | refine l_val rfl rfl (by first | exact pureEval_ok rfl ) ?_ | refine l_nil ?_ | refine c_region ?_ | refine c_seq ?_ | refine x_then ?_ | refine r_box rfl rfl rfl rfl (fun _ => ?_) )
  rename_i b1
  refine c_join [(1, .pointer (some ⟨b1, 0, none⟩)), (3, .bool F1)] [(b1, .cells ⟨c.v⟩ 26 (0, 0))] ?_ ?_
  · repeat' (first | refine l_val rfl rfl (by first | exact pureEval_ok rfl | exact v_load rfl (by repeat (first | exact List.Mem.head _ | apply List.Mem.tail)) rfl (by rfl) ) ?_ | refine l_nil ?_ | refine c_region ?_ | refine l_skip rfl rfl ?_ | refine l_dec rfl rfl rfl rfl rfl (fun _ => ?_) (fun _ => ?_) )
    · rename_i g1 g2
      have e := h1d () ⟨by omega, by omega⟩
      subst e
      exact x_mid (by repeat (first | exact EnvSub.nil | refine EnvSub.cons rfl (by first | rfl | (congr 1; done) | (exact congrArg (Value.int _) (by omega)) | (simp; done)) ?_)) (by repeat (first | exact MSub.nil | refine MSub.keep (by first | rfl | assumption) ?_ | refine MSub.drop ?_ | exact MSub.refl _))
    · rename_i g1 g2
      have e := h1f () (by omega)
      subst e
      exact x_mid (by repeat (first | exact EnvSub.nil | refine EnvSub.cons rfl (by first | rfl | (congr 1; done) | (exact congrArg (Value.int _) (by omega)) | (simp; done)) ?_)) (by repeat (first | exact MSub.nil | refine MSub.keep (by first | rfl | assumption) ?_ | refine MSub.drop ?_ | exact MSub.refl _))
    · rename_i g1
      have e := h1f () (by omega)
      subst e
      exact x_mid (by repeat (first | exact EnvSub.nil | refine EnvSub.cons rfl (by first | rfl | (congr 1; done) | (exact congrArg (Value.int _) (by omega)) | (simp; done)) ?_)) (by repeat (first | exact MSub.nil | refine MSub.keep (by first | rfl | assumption) ?_ | refine MSub.drop ?_ | exact MSub.refl _))
  refine c_join [(1, .pointer (some ⟨b1, 0, none⟩)), (3, .bool F1), (4, .bool F2)] [(b1, .cells ⟨c.v⟩ 26 (0, 0))] ?_ ?_
  · repeat' (first | refine l_val rfl rfl (by first | exact pureEval_ok rfl | exact v_load rfl (by repeat (first | exact List.Mem.head _ | apply List.Mem.tail)) rfl (by rfl) ) ?_ | refine l_nil ?_ | refine c_region ?_ | refine l_skip rfl rfl ?_ | refine l_dec rfl rfl rfl rfl rfl (fun _ => ?_) (fun _ => ?_) )
    · rename_i g1 g2
      have e := h2d () ⟨by omega, by omega⟩
      subst e
      exact x_mid (by repeat (first | exact EnvSub.nil | refine EnvSub.cons rfl (by first | rfl | (congr 1; done) | (exact congrArg (Value.int _) (by omega)) | (simp; done)) ?_)) (by repeat (first | exact MSub.nil | refine MSub.keep (by first | rfl | assumption) ?_ | refine MSub.drop ?_ | exact MSub.refl _))
    · rename_i g1 g2
      have e := h2f () (by omega)
      subst e
      exact x_mid (by repeat (first | exact EnvSub.nil | refine EnvSub.cons rfl (by first | rfl | (congr 1; done) | (exact congrArg (Value.int _) (by omega)) | (simp; done)) ?_)) (by repeat (first | exact MSub.nil | refine MSub.keep (by first | rfl | assumption) ?_ | refine MSub.drop ?_ | exact MSub.refl _))
    · rename_i g1
      have e := h2f () (by omega)
      subst e
      exact x_mid (by repeat (first | exact EnvSub.nil | refine EnvSub.cons rfl (by first | rfl | (congr 1; done) | (exact congrArg (Value.int _) (by omega)) | (simp; done)) ?_)) (by repeat (first | exact MSub.nil | refine MSub.keep (by first | rfl | assumption) ?_ | refine MSub.drop ?_ | exact MSub.refl _))
  clear h1t h1f h1d h2t h2f h2d
  cases F1 with
  | true =>
    repeat (first | refine l_val rfl rfl (by first | exact pureEval_ok rfl ) ?_ | refine l_nil ?_ | refine c_region ?_ | refine c_seq ?_ | refine x_then ?_ | refine l_skip rfl rfl ?_ | refine c_ret ?_ )
    exact x_ret rfl rfl (by repeat (first | exact Res.nil | (apply Res.tmp; rfl) | (apply Res.cell; rfl; exact (by repeat (first | exact List.Mem.head _ | apply List.Mem.tail)); rfl; rfl))) rfl (fun W hW => ⟨rfl, hW.below⟩)
  | false =>
    cases F2 with
    | false =>
      repeat (first | refine l_val rfl rfl (by first | exact pureEval_ok rfl ) ?_ | refine l_nil ?_ | refine c_region ?_ | refine c_seq ?_ | refine x_then ?_ | refine l_skip rfl rfl ?_ | refine c_ret ?_ )
      exact x_ret rfl rfl (by repeat (first | exact Res.nil | (apply Res.tmp; rfl) | (apply Res.cell; rfl; exact (by repeat (first | exact List.Mem.head _ | apply List.Mem.tail)); rfl; rfl))) rfl (fun W hW => ⟨rfl, hW.below⟩)
    | true =>
      repeat' (first | refine l_val rfl rfl (by first | exact pureEval_ok rfl | exact v_load rfl (by repeat (first | exact List.Mem.head _ | apply List.Mem.tail)) rfl (by rfl) ) ?_ | refine l_nil ?_ | refine c_region ?_ | refine c_seq ?_ | refine x_then ?_ | refine l_skip rfl rfl ?_ | refine c_ret ?_ | refine l_dec rfl rfl rfl rfl rfl (fun _ => ?_) (fun _ => ?_) )
      · rename_i g1
        have e : F3 = true := (hO ()).trans (decide_eq_true (by omega))
        subst e
        exact x_ret rfl rfl (by repeat (first | exact Res.nil | (apply Res.tmp; rfl) | (apply Res.cell; rfl; exact (by repeat (first | exact List.Mem.head _ | apply List.Mem.tail)); rfl; rfl))) rfl (fun W hW => ⟨rfl, hW.below⟩)
      · rename_i g1 g2
        have e : F3 = true := (hO ()).trans (decide_eq_true (by omega))
        subst e
        exact x_ret rfl rfl (by repeat (first | exact Res.nil | (apply Res.tmp; rfl) | (apply Res.cell; rfl; exact (by repeat (first | exact List.Mem.head _ | apply List.Mem.tail)); rfl; rfl))) rfl (fun W hW => ⟨rfl, hW.below⟩)
      · rename_i g1 g2
        have e : F3 = decide (256 < (c.sp.length : Int)) := (hO ()).trans (decide_eq_decide.2 (by omega))
        subst e
        exact x_ret rfl rfl (by repeat (first | exact Res.nil | (apply Res.tmp; rfl) | (apply Res.cell; rfl; exact (by repeat (first | exact List.Mem.head _ | apply List.Mem.tail)); rfl; rfl))) rfl (fun W hW => ⟨rfl, hW.below⟩)
end R13
end Go.Proofs
