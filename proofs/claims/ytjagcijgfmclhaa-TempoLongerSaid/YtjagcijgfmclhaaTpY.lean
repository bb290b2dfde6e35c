/- Clocks: few. -/
import Derived.Test.YtjagcijgfmclhaaTpR
import Derived.Test.YtjagcijgfmclhaaTpU
import Derived.Test.YtjagcijgfmclhaaEng20
import Derived.Test.YtjagcijgfmclhaaTpT
set_option linter.unusedSectionVars false
set_option linter.unusedVariables false
set_option linter.unusedSimpArgs false
namespace Go.Proofs
open Go.RowKit Go.Kin Go.Kin.Tm
namespace R13
/-! ## Few -/
def lim3 (n : Nat) (c : Clk) : Bool := decide (c.ts.length ≤ n ∧ c.ps.length ≤ n ∧ c.sp.length ≤ n)
def over (c : Clk) : Bool := decide (4096 < c.ts.length ∨ 4096 < c.ps.length ∨ 256 < c.sp.length)
def fewB (c : Clk) : Bool := lim3 60 c || (lim3 5000 c && over c)
theorem few_sm {c : Clk} (h : fewB c = true) : c.Sm := by
  simp only [fewB, lim3, over, Bool.or_eq_true, Bool.and_eq_true, decide_eq_true_eq] at h
  exact ⟨by omega, by omega, by omega⟩
theorem lim3_t {n : Nat} {c : Clk} (h : (c.ts.length : Int) ≤ n ∧ (c.ps.length : Int) ≤ n ∧ (c.sp.length : Int) ≤ n) : lim3 n c = true := decide_eq_true (by omega)
theorem lim3_f {n : Nat} {c : Clk} (h : ¬ ((c.ts.length : Int) ≤ n ∧ (c.ps.length : Int) ≤ n ∧ (c.sp.length : Int) ≤ n)) : lim3 n c = false := decide_eq_false (by omega)
theorem lim3_d {n : Nat} {c : Clk} (h : (c.ts.length : Int) ≤ n ∧ (c.ps.length : Int) ≤ n) : lim3 n c = decide ((c.sp.length : Int) ≤ n) := decide_eq_decide.2 (by omega)
set_option maxRecDepth 100000 in
set_option maxHeartbeats 4000000 in
theorem Few_calls (c : Clk) (w : World) : Calls Try.prog 11 ⟨[.agg ⟨c.v⟩]⟩ w fun e w' => e = .returned (.bool (fewB c)) ∧ Below w.heap.size w w' := by
  have h1t := fun (_ : Unit) => lim3_t (n := 60) (c := c)
  have h1f := fun (_ : Unit) => lim3_f (n := 60) (c := c)
  have h1d := fun (_ : Unit) => lim3_d (n := 60) (c := c)
  have h2t := fun (_ : Unit) => lim3_t (n := 5000) (c := c)
  have h2f := fun (_ : Unit) => lim3_f (n := 5000) (c := c)
  have h2d := fun (_ : Unit) => lim3_d (n := 5000) (c := c)
  have hB : fewB c = (lim3 60 c || (lim3 5000 c && over c)) := rfl
  have hO : Unit → over c = decide (4096 < c.ts.length ∨ 4096 < c.ps.length ∨ 256 < c.sp.length) := fun _ => rfl
  rw [hB]
  clear hB
  generalize lim3 60 c = F1 at *
  generalize lim3 5000 c = F2 at *
  generalize over c = F3 at *
  refine fun_enter Try.func11 rfl Try.ntmps11 rfl rfl (satW_nil w) ?_
  repeat ((fail_if_success refine c_probe (id := 1) ?_); (fail_if_success refine c_probe1 (id := 1) ?_); first | refine l_val rfl rfl (by first | exact pureEval_ok rfl ) ?_ | refine l_nil ?_ | refine c_region ?_ | refine c_seq ?_ | refine x_then ?_ | refine r_box rfl rfl rfl rfl (fun _ => ?_) )
  rename_i b1
  refine c_join [(1, .pointer (some ⟨b1, 0, none⟩)), (3, .bool F1)] [(b1, .cells ⟨c.v⟩ 26 (0, 0))] ?_ ?_
  · repeat' (first | refine l_val rfl rfl (by first | exact pureEval_ok rfl | exact v_load rfl (by repeat (first | exact List.Mem.head _ | apply List.Mem.tail)) rfl (by rfl) ) ?_ | refine l_nil ?_ | refine c_region ?_ | refine l_skip rfl rfl ?_ | refine l_dec rfl rfl rfl rfl rfl (fun _ => ?_) (fun _ => ?_) )
    · rename_i g1 g2
      have e := h1d () ⟨by omega, by omega⟩
      subst e
      exact x_mid (by repeat (first | exact EnvSub.nil | refine EnvSub.cons rfl (by first | rfl | (congr 1; done) | (exact congrArg (Value.int _) (by omega)) | (simp; done)) ?_)) (by repeat (first | exact MSub.nil | refine MSub.keep (by first | rfl | assumption) ?_ | refine MSub.drop ?_ | exact MSub.refl _))
    · rename_i g1 g2
      have e := h1f () (by omega)
      subst e
      exact x_mid (by repeat (first | exact EnvSub.nil | refine EnvSub.cons rfl (by first | rfl | (congr 1; done) | (exact congrArg (Value.int _) (by omega)) | (simp; done)) ?_)) (by repeat (first | exact MSub.nil | refine MSub.keep (by first | rfl | assumption) ?_ | refine MSub.drop ?_ | exact MSub.refl _))
    · rename_i g1
      have e := h1f () (by omega)
      subst e
      exact x_mid (by repeat (first | exact EnvSub.nil | refine EnvSub.cons rfl (by first | rfl | (congr 1; done) | (exact congrArg (Value.int _) (by omega)) | (simp; done)) ?_)) (by repeat (first | exact MSub.nil | refine MSub.keep (by first | rfl | assumption) ?_ | refine MSub.drop ?_ | exact MSub.refl _))
  refine c_join [(1, .pointer (some ⟨b1, 0, none⟩)), (3, .bool F1), (4, .bool F2)] [(b1, .cells ⟨c.v⟩ 26 (0, 0))] ?_ ?_
  · repeat' (first | refine l_val rfl rfl (by first | exact pureEval_ok rfl | exact v_load rfl (by repeat (first | exact List.Mem.head _ | apply List.Mem.tail)) rfl (by rfl) ) ?_ | refine l_nil ?_ | refine c_region ?_ | refine l_skip rfl rfl ?_ | refine l_dec rfl rfl rfl rfl rfl (fun _ => ?_) (fun _ => ?_) )
    · rename_i g1 g2
      have e := h2d () ⟨by omega, by omega⟩
      subst e
      exact x_mid (by repeat (first | exact EnvSub.nil | refine EnvSub.cons rfl (by first | rfl | (congr 1; done) | (exact congrArg (Value.int _) (by omega)) | (simp; done)) ?_)) (by repeat (first | exact MSub.nil | refine MSub.keep (by first | rfl | assumption) ?_ | refine MSub.drop ?_ | exact MSub.refl _))
    · rename_i g1 g2
      have e := h2f () (by omega)
      subst e
      exact x_mid (by repeat (first | exact EnvSub.nil | refine EnvSub.cons rfl (by first | rfl | (congr 1; done) | (exact congrArg (Value.int _) (by omega)) | (simp; done)) ?_)) (by repeat (first | exact MSub.nil | refine MSub.keep (by first | rfl | assumption) ?_ | refine MSub.drop ?_ | exact MSub.refl _))
    · rename_i g1
      have e := h2f () (by omega)
      subst e
      exact x_mid (by repeat (first | exact EnvSub.nil | refine EnvSub.cons rfl (by first | rfl | (congr 1; done) | (exact congrArg (Value.int _) (by omega)) | (simp; done)) ?_)) (by repeat (first | exact MSub.nil | refine MSub.keep (by first | rfl | assumption) ?_ | refine MSub.drop ?_ | exact MSub.refl _))
  clear h1t h1f h1d h2t h2f h2d
  cases F1 with
  | true =>
    repeat (first | refine l_val rfl rfl (by first | exact pureEval_ok rfl ) ?_ | refine l_nil ?_ | refine c_region ?_ | refine c_seq ?_ | refine x_then ?_ | refine l_skip rfl rfl ?_ | refine c_ret ?_ )
    exact x_ret rfl rfl (by repeat (first | exact Res.nil | (apply Res.tmp; rfl) | (apply Res.cell; rfl; exact (by repeat (first | exact List.Mem.head _ | apply List.Mem.tail)); rfl; rfl))) rfl (fun W hW => ⟨rfl, hW.below⟩)
  | false =>
    cases F2 with
    | false =>
      repeat (first | refine l_val rfl rfl (by first | exact pureEval_ok rfl ) ?_ | refine l_nil ?_ | refine c_region ?_ | refine c_seq ?_ | refine x_then ?_ | refine l_skip rfl rfl ?_ | refine c_ret ?_ )
      exact x_ret rfl rfl (by repeat (first | exact Res.nil | (apply Res.tmp; rfl) | (apply Res.cell; rfl; exact (by repeat (first | exact List.Mem.head _ | apply List.Mem.tail)); rfl; rfl))) rfl (fun W hW => ⟨rfl, hW.below⟩)
    | true =>
      repeat' (first | refine l_val rfl rfl (by first | exact pureEval_ok rfl | exact v_load rfl (by repeat (first | exact List.Mem.head _ | apply List.Mem.tail)) rfl (by rfl) ) ?_ | refine l_nil ?_ | refine c_region ?_ | refine c_seq ?_ | refine x_then ?_ | refine l_skip rfl rfl ?_ | refine c_ret ?_ | refine l_dec rfl rfl rfl rfl rfl (fun _ => ?_) (fun _ => ?_) )
      · rename_i g1
        have e : F3 = true := (hO ()).trans (decide_eq_true (by omega))
        subst e
        exact x_ret rfl rfl (by repeat (first | exact Res.nil | (apply Res.tmp; rfl) | (apply Res.cell; rfl; exact (by repeat (first | exact List.Mem.head _ | apply List.Mem.tail)); rfl; rfl))) rfl (fun W hW => ⟨rfl, hW.below⟩)
      · rename_i g1 g2
        have e : F3 = true := (hO ()).trans (decide_eq_true (by omega))
        subst e
        exact x_ret rfl rfl (by repeat (first | exact Res.nil | (apply Res.tmp; rfl) | (apply Res.cell; rfl; exact (by repeat (first | exact List.Mem.head _ | apply List.Mem.tail)); rfl; rfl))) rfl (fun W hW => ⟨rfl, hW.below⟩)
      · rename_i g1 g2
        have e : F3 = decide (256 < (c.sp.length : Int)) := (hO ()).trans (decide_eq_decide.2 (by omega))
        subst e
        exact x_ret rfl rfl (by repeat (first | exact Res.nil | (apply Res.tmp; rfl) | (apply Res.cell; rfl; exact (by repeat (first | exact List.Mem.head _ | apply List.Mem.tail)); rfl; rfl))) rfl (fun W hW => ⟨rfl, hW.below⟩)
end R13
end Go.Proofs

set_option linter.unusedSectionVars false
set_option linter.unusedVariables false
set_option linter.unusedSimpArgs false
namespace Go.Proofs
open Go.RowKit Go.Kin Go.Kin.Tm
namespace R13
theorem tp_len (l : List Tp) : ∀ r ∈ l.map tpE, r.length = 3 := fun r hr => by obtain ⟨x, _, rfl⟩ := List.mem_map.1 hr; rfl
theorem ps_len (l : List Ps) : ∀ r ∈ l.map psE, r.length = 4 := fun r hr => by obtain ⟨x, _, rfl⟩ := List.mem_map.1 hr; rfl
theorem in_len (l : List Int) : ∀ r ∈ l.map inE, r.length = 1 := fun r hr => by obtain ⟨x, _, rfl⟩ := List.mem_map.1 hr; rfl

theorem plain_calls (n : Int) (B : Option Addr) (len cap : Nat) (w : World) :
    Calls Try.prog 26 ⟨[.int .i64 n, .slice B len cap]⟩ w fun e w' => ∃ b : Nat, e = .returned (.agg ⟨[.int .i64 n, .slice (some ⟨b, 0, none⟩) 1 1, .slice B len cap, .slice none 0 0]⟩) ∧ Below w.heap.size w w' ∧ w.heap.size ≤ b ∧
      w'.heap[b]? = some (.cells ⟨[.int .i64 0, .int .i64 10, .int .i64 0]⟩ 57 (0, 0)) := by
  refine fun_enter Try.func26 rfl Try.ntmps26 rfl rfl (satW_nil w) ?_
  repeat (first | refine l_val rfl rfl (by first | exact pureEval_ok rfl | exact v_build rfl rfl (by rfl) ) ?_ | refine l_nil ?_ | refine c_region ?_ | refine c_seq ?_ | refine x_then ?_ | refine r_alloc rfl rfl rfl (by first | exact aggL ) (fun _ => ?_) | refine r_store rfl rfl rfl rfl rfl rfl rfl (by repeat (first | exact Upd.head | apply Upd.tail)) (by rfl) ?_ | refine r_buildSlice rfl rfl rfl rfl rfl rfl (by rfl) (fun _ => ?_) | refine c_ret ?_ )
  rename_i b4 b7
  refine x_ret rfl rfl (by repeat (first | exact Res.nil | (apply Res.tmp; rfl) | (apply Res.cell; rfl; exact (by repeat (first | exact List.Mem.head _ | apply List.Mem.tail)); rfl; rfl))) rfl (fun W hW => ?_)
  have h1 := hW.own (b7, _) (by repeat (first | exact List.Mem.head _ | apply List.Mem.tail))
  exact ⟨b7, rfl, hW.below, Nat.le_of_not_lt h1.1, h1.2⟩

/-! ## The ends of the pauses -/
def ints (l : List Int) : List Value := l.map fun x => .int .i64 x
theorem ints_len (l : List Int) : (ints l).length = l.length := by simp [ints]
theorem ints_rows (l : List Int) : ints l = (l.map inE).flatten := by
  induction l with
  | nil => rfl
  | cons x l ih => simp only [ints, List.map_cons, List.flatten_cons] at ih ⊢; rw [ih]; rfl
theorem ints_snoc (l : List Int) (x : Int) : ints (l ++ [x]) = ints l ++ [.int .i64 x] := by simp [ints]
inductive ES where
  | zero
  | more (k b1 c1 : Nat) (r1 : List Value) (b2 c2 : Nat) (r2 : List Value)
def ES.at : ES → Nat
  | .zero => 0
  | .more k _ _ _ _ _ _ => k
def ES.ok (lo hi : List Int) : ES → Prop
  | .zero => True
  | .more k _ c1 r1 _ c2 r2 => 0 < k ∧ k ≤ lo.length ∧ Grow 1 k (ints (lo.take k)) c1 r1 ∧ Grow 1 k (ints (hi.take k)) c2 r2
def ES.env (b n : Nat) (B : Option Addr) (cb : Nat) : ES → List (Nat × Value)
  | .zero => [(1, .pointer (some ⟨b, 0, none⟩)), (2, .slice none 0 0), (3, .slice none 0 0), (7, .slice B n cb), (8, .int .i64 n), (9, .int .i64 (0 : Nat))]
  | .more k b1 c1 _ b2 c2 _ => [(1, .pointer (some ⟨b, 0, none⟩)), (2, .slice (some ⟨b1, 0, none⟩) k c1), (3, .slice (some ⟨b2, 0, none⟩) k c2), (7, .slice B n cb), (8, .int .i64 n), (9, .int .i64 k)]
def ES.mem (b : Nat) (o : Obj) (lo hi : List Int) : ES → List (Nat × Obj)
  | .zero => [(b, o)]
  | .more k b1 _ r1 b2 _ r2 => [(b1, .cells ⟨ints (lo.take k) ++ r1⟩ 3 (0, 0)), (b2, .cells ⟨ints (hi.take k) ++ r2⟩ 3 (0, 0)), (b, o)]
/-- what ends answers -/
structure EA (lo hi : List Int) where
  b1 : Nat
  c1 : Nat
  r1 : List Value
  b2 : Nat
  c2 : Nat
  r2 : List Value

set_option maxRecDepth 100000 in
set_option maxHeartbeats 4000000 in
theorem ends_nil (c : Clk) (w : World) (h : c.ps.length = 0) : Calls Try.prog 24 ⟨[.agg ⟨c.v⟩]⟩ w fun e w' => e = .returned (.tuple ⟨[.slice none 0 0, .slice none 0 0]⟩) ∧ Below w.heap.size w w' := by
  refine fun_enter Try.func24 rfl Try.ntmps24 rfl rfl (satW_nil w) ?_
  repeat (first | refine l_val rfl rfl (by first | exact pureEval_ok rfl | exact v_load rfl (by repeat (first | exact List.Mem.head _ | apply List.Mem.tail)) rfl (by rfl) ) ?_ | refine l_nil ?_ | refine c_region ?_ | refine c_seq ?_ | refine x_then ?_ | refine r_box rfl rfl rfl rfl (fun _ => ?_) | refine c_block ?_ )
  rename_i b1
  refine c_loop (ι := Unit) (fun _ => True) (fun _ => [(2, .slice none 0 0), (3, .slice none 0 0), (8, .int .i64 c.ps.length), (9, .int .i64 0)]) (fun _ => []) (fun _ => 0) () trivial (by repeat (first | exact EnvSub.nil | refine EnvSub.cons rfl (by first | rfl | (congr 1; done) | (exact congrArg (Value.int _) (by omega)) | (simp; done)) ?_)) (by repeat (first | exact MSub.nil | refine MSub.keep (by first | rfl | assumption) ?_ | refine MSub.drop ?_ | exact MSub.refl _)) ?_
  intro _ _
  repeat (first | refine l_val rfl rfl (by first | exact pureEval_ok rfl ) ?_ | refine l_nil ?_ | refine c_region ?_ | refine c_seq ?_ | refine x_then ?_ | refine c_dec_f rfl (by first | omega | exact fun h => h rfl ) ?_ | refine c_ret ?_ | refine c_exit ?_ | refine x_then_exit ?_ | refine x_block_same ?_ )
  exact x_ret rfl rfl (by repeat (first | exact Res.nil | (apply Res.tmp; rfl) | (apply Res.cell; rfl; exact (by repeat (first | exact List.Mem.head _ | apply List.Mem.tail)); rfl; rfl))) rfl (fun W hW => ⟨rfl, hW.below⟩)

set_option maxRecDepth 100000 in
set_option maxHeartbeats 4000000 in
theorem ends_calls (c : Clk) (w : World) (hl : c.ps.length ≤ 5000) (h : 0 < c.ps.length) (hA : c.In w) :
    Calls Try.prog 24 ⟨[.agg ⟨c.v⟩]⟩ w fun e w' => ∃ q : EA (c.ps.map Ps.lo) (c.ps.map Ps.hi), e = .returned (.tuple ⟨[.slice (some ⟨q.b1, 0, none⟩) c.ps.length q.c1, .slice (some ⟨q.b2, 0, none⟩) c.ps.length q.c2]⟩) ∧ Below w.heap.size w w' ∧
      w.heap.size ≤ q.b1 ∧ w'.heap[q.b1]? = some (.cells ⟨ints (c.ps.map Ps.lo) ++ q.r1⟩ 3 (0, 0)) ∧ w.heap.size ≤ q.b2 ∧ w'.heap[q.b2]? = some (.cells ⟨ints (c.ps.map Ps.hi) ++ q.r2⟩ 3 (0, 0)) ∧ q.b2 ≠ q.b1 := by
  obtain ⟨lo, hlo⟩ : ∃ lo, c.ps.map Ps.lo = lo := ⟨_, rfl⟩
  obtain ⟨hi, hhi⟩ : ∃ hi, c.ps.map Ps.hi = hi := ⟨_, rfl⟩
  rw [hlo, hhi]
  have hll : lo.length = c.ps.length := by rw [← hlo, List.length_map]
  have hlh : hi.length = c.ps.length := by rw [← hhi, List.length_map]
  have gets : ∀ (i : Nat) (p : Ps), c.ps[i]? = some p → lo.take (i + 1) = lo.take i ++ [p.lo] ∧ hi.take (i + 1) = hi.take i ++ [p.hi] := fun i p hp => by
    constructor
    · rw [List.take_add_one, ← hlo, List.getElem?_map, hp]; rfl
    · rw [List.take_add_one, ← hhi, List.getElem?_map, hp]; rfl
  clear hlo hhi
  obtain ⟨n, ts, ps, sp, A, B, C, ca, cb, cc⟩ := c
  have hB := hA.b
  clear hA
  dsimp only [Clk.v] at *
  refine fun_enter Try.func24 rfl Try.ntmps24 rfl rfl (satW_nil w) ?_
  repeat (first | refine l_val rfl rfl (by first | exact pureEval_ok rfl | exact v_load rfl (by repeat (first | exact List.Mem.head _ | apply List.Mem.tail)) rfl (by rfl) ) ?_ | refine l_nil ?_ | refine c_region ?_ | refine c_seq ?_ | refine x_then ?_ | refine r_box rfl rfl rfl rfl (fun _ => ?_) | refine c_block ?_ )
  rename_i b1
  refine c_loop (ι := ES) (ES.ok lo hi) (ES.env b1 ps.length B cb) (ES.mem b1 (.cells ⟨[.int .i64 n, .slice A ts.length ca, .slice B ps.length cb, .slice C sp.length cc]⟩ 26 (0, 0)) lo hi) (fun s => ps.length - s.at) .zero trivial (by simp only [ES.env]; exact (by repeat (first | exact EnvSub.nil | refine EnvSub.cons rfl (by first | rfl | (congr 1; done) | (exact congrArg (Value.int _) (by omega)) | (simp; done)) ?_))) (by simp only [ES.mem]; exact (by repeat (first | exact MSub.nil | refine MSub.keep (by first | rfl | assumption) ?_ | refine MSub.drop ?_ | exact MSub.refl _))) ?_
  intro s hs
  cases s with
  | zero =>
    obtain ⟨t, ht⟩ : ∃ t, ps[0]? = some t := ⟨_, List.getElem?_eq_getElem h⟩
    obtain ⟨b', o', rfl, hc⟩ := ext_at hB ht
    have he := ext_of hc
    unfold psE at he
    obtain ⟨g1, g2⟩ := gets 0 t ht
    clear gets
    simp only [ES.env, ES.mem, ES.at]
    repeat ((fail_if_success refine c_probe (id := 4) ?_); (fail_if_success refine c_probe1 (id := 4) ?_); first | refine l_val rfl rfl (by first | exact pureEval_ok rfl | exact v_load_ext0 rfl (by assumption) rfl (by rfl) | exact v_index rfl rfl rfl rfl (by omega) (by omega) (by with_reducible first | exact idx4 _ _ _  ) ) ?_ | refine l_nil ?_ | refine c_region ?_ | refine c_seq ?_ | refine x_then ?_ | refine r_alloc rfl rfl rfl (by first | exact aggL ) (fun _ => ?_) | refine r_store rfl rfl rfl rfl rfl rfl rfl (by repeat (first | exact Upd.head | apply Upd.tail)) (by rfl) ?_ | refine c_dec_t rfl (by first | omega ) ?_ | refine c_block ?_ | refine c_skip ?_ )
    refine c_new 0 4 [(3, .new 0), (4, .app 1 none 1), (8, .new 2), (9, .app 3 none 1)] [(3,[0]),(4,[1]),(8,[2]),(9,[3])] [(4,0),(9,2)] rfl (by decide +kernel) rfl ?_; repeat (first | refine e_val rfl rfl rfl rfl (by first | exact pureEval_ok rfl | exact v_load rfl (by repeat (first | exact List.Mem.head _ | apply List.Mem.tail)) rfl (by rfl) ) ?_ | refine e_new rfl rfl rfl rfl (by first | exact n_buildSlice rfl rfl rfl rfl (by rfl) ) (fun _ => ?_) )
    refine e_app0 (xs := [.int .i64 t.lo]) (n := 1) (e := 3) rfl rfl rfl rfl (by decide) rfl (by decide) rfl (a_append_nil rfl rfl rfl rfl (news_own (by repeat (first | exact List.Mem.head _ | apply List.Mem.tail))) rfl rfl (by decide) (by decide) (by decide)) (fun b6 c6 r6 hg6 => ?_)
    repeat (first | refine e_val rfl rfl rfl rfl (by first | exact pureEval_ok rfl | exact v_load rfl (by repeat (first | exact List.Mem.head _ | apply List.Mem.tail)) rfl (by rfl) ) ?_ | refine e_new rfl rfl rfl rfl (by first | exact n_buildSlice rfl rfl rfl rfl (by rfl) ) (fun _ => ?_) )
    refine e_app0 (xs := [.int .i64 t.hi]) (n := 1) (e := 3) rfl rfl rfl rfl (by decide) rfl (by decide) rfl (a_append_nil rfl rfl rfl rfl (news_own (by repeat (first | exact List.Mem.head _ | apply List.Mem.tail))) rfl rfl (by decide) (by decide) (by decide)) (fun b7 c7 r7 hg7 => ?_)
    repeat (first | refine l_val rfl rfl (by first | exact v_add rfl rfl (by omega) (by omega) | exact pureEval_ok rfl ) ?_ | refine l_nil ?_ | refine c_region ?_ | refine x_then ?_ | refine x_block ?_ | refine e_val rfl rfl rfl rfl (by first | exact pureEval_ok rfl ) ?_ | refine e_nil rfl ?_ )
    have e1 : ints (lo.take 1) = [.int .i64 t.lo] := by rw [show (1 : Nat) = 0 + 1 from rfl, g1]; rfl
    have e2 : ints (hi.take 1) = [.int .i64 t.hi] := by rw [show (1 : Nat) = 0 + 1 from rfl, g2]; rfl
    refine x_back (.more 1 b6 c6 r6 b7 c7 r7) ⟨by decide, by omega, by rw [e1]; exact hg6, by rw [e2]; exact hg7⟩ (by simp only [ES.at]; omega) (by simp only [ES.env]; exact (by repeat (first | exact EnvSub.nil | refine EnvSub.cons rfl (by first | rfl | (congr 1; done) | (exact congrArg (Value.int _) (by omega)) | (simp; done)) ?_))) ?_
    simp only [ES.mem, e1, e2]
    exact (by repeat (first | exact MSub.nil | refine MSub.keep (by first | rfl | assumption) ?_ | refine MSub.drop ?_ | exact MSub.refl _))
  | more k x1 c1 r1 x2 c2 r2 =>
    obtain ⟨i1, i2, i3, i4⟩ := hs
    simp only [ES.env, ES.mem, ES.at]
    by_cases hlt : k < ps.length
    · obtain ⟨t, ht⟩ : ∃ t, ps[k]? = some t := ⟨_, List.getElem?_eq_getElem hlt⟩
      obtain ⟨b', o', rfl, hc⟩ := ext_at hB ht
      have he := ext_of hc
      unfold psE at he
      obtain ⟨g1, g2⟩ := gets k t ht
      clear gets
      have e1 : ints (lo.take (k + 1)) = ints (lo.take k) ++ [.int .i64 t.lo] := by rw [g1, ints_snoc]
      have e2 : ints (hi.take (k + 1)) = ints (hi.take k) ++ [.int .i64 t.hi] := by rw [g2, ints_snoc]
      have l1 := i3.len
      have l2 := i4.len
      repeat ((fail_if_success refine c_probe (id := 4) ?_); (fail_if_success refine c_probe1 (id := 4) ?_); first | refine l_val rfl rfl (by first | exact pureEval_ok rfl | exact v_load_ext0 rfl (by assumption) rfl (by rfl) | exact v_index rfl rfl rfl rfl (by omega) (by omega) (by with_reducible first | exact idx4 _ _ _  ) ) ?_ | refine l_nil ?_ | refine c_region ?_ | refine c_seq ?_ | refine x_then ?_ | refine r_alloc rfl rfl rfl (by first | exact aggL ) (fun _ => ?_) | refine r_store rfl rfl rfl rfl rfl rfl rfl (by repeat (first | exact Upd.head | apply Upd.tail)) (by rfl) ?_ | refine c_dec_t rfl (by first | omega ) ?_ | refine c_block ?_ | refine c_skip ?_ )
      refine c_new 3 4 [(3, .new 3), (4, .app 4 (some 1) 1), (8, .new 5), (9, .app 6 (some 2) 1)] [(3,[3]),(4,[4,1]),(8,[5]),(9,[6,2])] [(4,3),(4,1),(9,5),(9,2)] rfl (by decide +kernel) rfl ?_; repeat (first | refine e_val rfl rfl rfl rfl (by first | exact pureEval_ok rfl | exact v_load rfl (by repeat (first | exact List.Mem.head _ | apply List.Mem.tail)) rfl (by rfl) ) ?_ | refine e_new rfl rfl rfl rfl (by first | exact n_buildSlice rfl rfl rfl rfl (by rfl) ) (fun _ => ?_) )
      refine e_app (xs := ints (lo.take k) ++ [.int .i64 t.lo]) (n := k + 1) (e := 3) rfl rfl rfl rfl rfl (by decide) (by rw [List.length_append, l1]; simp) (by unfold maxLen; omega) rfl
        (a_append rfl rfl rfl rfl (news_own (by repeat (first | exact List.Mem.head _ | apply List.Mem.tail))) (by repeat (first | exact List.Mem.head _ | apply List.Mem.tail)) i3 rfl (allOne_mem rfl) rfl rfl (by omega) (by unfold maxLen; omega)) (fun b6 c6 r6 hg6 => ?_)
      repeat (first | refine e_val rfl rfl rfl rfl (by first | exact pureEval_ok rfl | exact v_load rfl (by repeat (first | exact List.Mem.head _ | apply List.Mem.tail)) rfl (by rfl) ) ?_ | refine e_new rfl rfl rfl rfl (by first | exact n_buildSlice rfl rfl rfl rfl (by rfl) ) (fun _ => ?_) )
      refine e_app (xs := ints (hi.take k) ++ [.int .i64 t.hi]) (n := k + 1) (e := 3) rfl rfl rfl rfl rfl (by decide) (by rw [List.length_append, l2]; simp) (by unfold maxLen; omega) rfl
        (a_append rfl rfl rfl rfl (news_own (by repeat (first | exact List.Mem.head _ | apply List.Mem.tail))) (by repeat (first | exact List.Mem.head _ | apply List.Mem.tail)) i4 rfl (allOne_mem rfl) rfl rfl (by omega) (by unfold maxLen; omega)) (fun b7 c7 r7 hg7 => ?_)
      repeat (first | refine l_val rfl rfl (by first | exact v_add rfl rfl (by omega) (by omega) | exact pureEval_ok rfl ) ?_ | refine l_nil ?_ | refine c_region ?_ | refine x_then ?_ | refine x_block ?_ | refine e_val rfl rfl rfl rfl (by first | exact pureEval_ok rfl ) ?_ | refine e_nil rfl ?_ )
      refine x_back (.more (k + 1) b6 c6 r6 b7 c7 r7) ⟨Nat.succ_pos k, by omega, by rw [e1]; exact hg6, by rw [e2]; exact hg7⟩ (by simp only [ES.at]; omega) (by simp only [ES.env]; exact (by repeat (first | exact EnvSub.nil | refine EnvSub.cons rfl (by first | rfl | (congr 1; done) | (exact congrArg (Value.int _) (by omega)) | (simp; done)) ?_))) ?_
      simp only [ES.mem, e1, e2]
      exact (by repeat (first | exact MSub.nil | refine MSub.keep (by first | rfl | assumption) ?_ | refine MSub.drop ?_ | exact MSub.refl _))
    · have hk : k = ps.length := by omega
      subst hk
      have t1 : lo.take ps.length = lo := by rw [← hll, List.take_length]
      have t2 : hi.take ps.length = hi := by rw [← hlh, List.take_length]
      rw [t1, t2]
      repeat (first | refine l_val rfl rfl (by first | exact pureEval_ok rfl ) ?_ | refine l_nil ?_ | refine c_region ?_ | refine c_seq ?_ | refine x_then ?_ | refine c_dec_f rfl (by first | omega ) ?_ | refine c_ret ?_ | refine c_exit ?_ | refine x_then_exit ?_ | refine x_block_same ?_ )
      refine x_ret rfl rfl (by repeat (first | exact Res.nil | (apply Res.tmp; rfl) | (apply Res.cell; rfl; exact (by repeat (first | exact List.Mem.head _ | apply List.Mem.tail)); rfl; rfl))) rfl (fun W hW => ?_)
      have h1 := hW.own (x1, _) (by repeat (first | exact List.Mem.head _ | apply List.Mem.tail))
      have h2 := hW.own (x2, _) (by repeat (first | exact List.Mem.head _ | apply List.Mem.tail))
      have hn := hW.nodup
      simp only [List.map_cons, List.map_nil, List.nodup_cons, List.mem_cons, not_or] at hn
      exact ⟨⟨x1, c1, r1, x2, c2, r2⟩, rfl, hW.below, Nat.le_of_not_lt h1.1, h1.2, Nat.le_of_not_lt h2.1, h2.2, fun e => hn.1.1 e.symm⟩

/-! ## When a bar begins, by the ticks that the package returns -/
theorem lenF_of {l : List Int} {i : Nat} {x : Int} (h : l[i]? = some x) : lenF l i = x := by unfold lenF; rw [List.getD_eq_getElem?_getD, h]; rfl
theorem Bt_bdN {tk pa : Int → Int} {n : Nat} (h : ∀ k : Nat, k < n → (1 ≤ tk k ∧ tk k ≤ 65536) ∧ 0 ≤ pa k ∧ pa k ≤ 1048576) : ∀ k : Nat, k ≤ n → 0 ≤ Bt tk pa k ∧ Bt tk pa k ≤ 1114112 * k
  | 0, _ => by show (0 : Int) ≤ 0 ∧ (0 : Int) ≤ _; omega
  | k + 1, hk => by
    have h1 := Bt_bdN h k (by omega)
    have h2 := h k (by omega)
    rw [Bt_succ]; omega
theorem pa_leN {len : Nat → Int} {M : Int} (hM : 0 ≤ M) : ∀ {ps : List Ps} {o : Nat} {k : Int}, (∀ i : Nat, i < ps.length → len (o + i) ≤ M) → pa len ps o k ≤ M
  | [], _, _, _ => hM
  | p :: l, o, k, h => by
    unfold pa
    split
    · exact h 0 (by simp)
    · refine pa_leN hM fun i hi' => ?_
      have := h (i + 1) (by simp; omega)
      rwa [show o + (i + 1) = o + 1 + i by omega] at this
set_option maxRecDepth 100000 in
set_option maxHeartbeats 4000000 in
theorem lbegin_calls (c : Clk) (L : Option Addr) (cap : Nat) (l : List Int) (bar : Int) (w : World) (hk0 : c.k = 0) (hlen : l.length = c.ps.length) (hl : ∀ i, i < c.ps.length → 0 ≤ lenF l i ∧ lenF l i ≤ 1048576) (hb : 0 ≤ bar ∧ bar ≤ c.n) (hA : c.In w) (hL : Kin.At w L 1 (l.map inE)) :
    Calls Try.prog 25 ⟨[.agg ⟨c.v⟩, .slice L l.length cap, .int .i64 bar]⟩ w fun e w' => e = .returned (.tuple ⟨[.int .i64 (Bt (tk c.ts) (pa (lenF l) c.ps 0) bar.toNat), .bool true]⟩) ∧ Below w.heap.size w w' := by
  have hok := chk_ok.1 hk0
  have hSm : c.Sm := ⟨by have := hok.lim; omega, by have := hok.lim; omega, by have := hok.lim; omega⟩
  have hT : ∀ k : Nat, (k : Int) < c.n → ∀ W, c.In W → Calls Try.prog 12 ⟨[.agg ⟨c.v⟩, .int .i64 k]⟩ W fun e w' => e = .returned (.tuple ⟨[.int .i64 (tk c.ts k), .int .i64 0]⟩) ∧ Below W.heap.size W w' := fun k hk W hW => by
    have := Ticks_calls c k W hSm hW
    rw [tkA_in hk0 ⟨by omega, by omega⟩] at this
    exact this
  have hlp := hok.lim.2.1
  have hasc := hok.ascP
  have hbd : ∀ k : Nat, k < bar.toNat → (1 ≤ tk c.ts k ∧ tk c.ts k ≤ 65536) ∧ 0 ≤ pa (lenF l) c.ps 0 k ∧ pa (lenF l) c.ps 0 k ≤ 1048576 := fun k hk =>
    ⟨hok.bars k (by omega) (by omega), pa_ge fun i hi => by rw [Nat.zero_add]; exact (hl i hi).1, pa_leN (by omega) fun i hi => by rw [Nat.zero_add]; exact (hl i hi).2⟩
  have hB := Bt_bdN hbd
  have hn2 := hok.n2
  obtain ⟨M, hM⟩ : ∃ M, bar.toNat = M := ⟨_, rfl⟩
  rw [hM] at hbd hB ⊢
  obtain rfl : bar = M := by omega
  obtain ⟨n, ts, ps, sp, A, B, C, ca, cb, cc⟩ := c
  have hBB := hA.b
  dsimp only [Clk.v] at *
  clear hok hSm
  refine fun_enter Try.func25 rfl Try.ntmps25 rfl rfl (satW_nil w) ?_
  repeat (first | refine l_val rfl rfl (by first | exact pureEval_ok rfl ) ?_ | refine l_nil ?_ | refine c_region ?_ | refine c_seq ?_ | refine x_then ?_ | refine r_box rfl rfl rfl rfl (fun _ => ?_) | refine c_block ?_ )
  rename_i b3
  refine c_loop (ι := Nat × Nat) (fun q => q.1 ≤ M ∧ Tm.At ps q.2 q.1) (fun q => [(1, .slice L l.length cap), (2, .int .i64 M), (3, .pointer (some ⟨b3, 0, none⟩)), (6, .int .i64 (Bt (tk ts) (pa (lenF l) ps 0) q.1)), (7, .bool false), (8, .int .i64 q.2), (9, .int .i64 q.1)])
    (fun _ => [(b3, .cells ⟨[.int .i64 n, .slice A ts.length ca, .slice B ps.length cb, .slice C sp.length cc]⟩ 26 (0, 0))]) (fun q => M - q.1) (0, 0) ⟨by simp only; omega, at_zero hasc⟩ (by repeat (first | exact EnvSub.nil | refine EnvSub.cons rfl (by first | rfl | (congr 1; done) | (exact congrArg (Value.int _) (by omega)) | (simp; done)) ?_)) (by repeat (first | exact MSub.nil | refine MSub.keep (by first | rfl | assumption) ?_ | refine MSub.drop ?_ | exact MSub.refl _)) ?_
  rintro ⟨k, i⟩ ⟨i1, i2⟩
  simp only at i1 i2 ⊢
  by_cases hlt : k < M
  · have h1 := hB k i1
    obtain ⟨⟨h2, h3⟩, h4, h5⟩ := hbd k hlt
    have hs := Bt_succ (tk := tk ts) (pa := pa (lenF l) ps 0) k
    have hTk := hT k (by omega)
    have i0 := i2.1
    obtain ⟨S, hS⟩ : ∃ S, Bt (tk ts) (pa (lenF l) ps 0) k = S := ⟨_, rfl⟩
    obtain ⟨S', hS'⟩ : ∃ S', Bt (tk ts) (pa (lenF l) ps 0) (k + 1) = S' := ⟨_, rfl⟩
    obtain ⟨T, hT1⟩ : ∃ T, tk ts k = T := ⟨_, rfl⟩
    obtain ⟨X, hX⟩ : ∃ X, pa (lenF l) ps 0 k = X := ⟨_, rfl⟩
    rw [hT1] at hTk h2 h3
    rw [hS] at h1 ⊢
    rw [hS, hS', hT1, hX] at hs
    rw [hX] at h4 h5
    clear hbd hB hT hl
    cases hh : hasP ps i k with
    | true =>
      obtain ⟨p, hp, hpb⟩ := hasP_yes hh
      have hx1 := pa_has (len := lenF l) i2 hh
      have hnx := at_has hasc i2 hh
      have hil : i < ps.length := (List.getElem?_eq_some_iff.1 hp).1
      obtain ⟨x, hx⟩ : ∃ x, l[i]? = some x := ⟨_, List.getElem?_eq_getElem (by omega)⟩
      obtain ⟨b', o', rfl, hc⟩ := ext_at hBB hp
      obtain ⟨b4, o4, rfl, hc4⟩ := ext_at hL hx
      have he := ext_of hc
      have he3 := ext_of hc4
      rw [Nat.mul_one] at he3
      unfold psE at he
      rw [lenF_of hx, hX] at hx1
      subst hx1
      clear hX hS hT1 hasc i2
      repeat (first | refine l_val rfl rfl (by first | exact v_add rfl rfl (by omega) (by omega) | exact pureEval_ok rfl | exact v_load rfl (by repeat (first | exact List.Mem.head _ | apply List.Mem.tail)) rfl (by rfl) | exact v_load_ext0 rfl (by assumption) rfl (by rfl) | exact v_index rfl rfl rfl rfl (by omega) (by omega) (by with_reducible first | exact idx2 _ _  | exact idx4 _ _ _  ) ) ?_ | refine l_nil ?_ | refine c_region ?_ | refine c_seq ?_ | refine x_then ?_ | refine c_false rfl ?_ | refine c_dec_t rfl (by first | omega ) ?_ | refine c_block ?_ | refine c_skip ?_ | refine x_block ?_ | refine l_dec_t rfl rfl rfl rfl rfl (by first | omega ) ?_ | (refine r_call rfl rfl rfl (fun W hW => hTk W (hA.sat hW)) ?_) )
      refine x_back (k + 1, i + 1) ⟨hlt, hnx⟩ (by simp only; omega) ?_ (by repeat (first | exact MSub.nil | refine MSub.keep (by first | rfl | assumption) ?_ | refine MSub.drop ?_ | exact MSub.refl _))
      simp only
      rw [‹Bt (tk ts) (pa (lenF l) ps 0) (k + 1) = S'›, hs]
      exact (by repeat (first | exact EnvSub.nil | refine EnvSub.cons rfl (by first | rfl | (congr 1; done) | (exact congrArg (Value.int _) (by omega)) | (simp; done)) ?_))
    | false =>
      have hx1 := pa_not (len := lenF l) hasc i2 hh
      have hnx := at_not hasc i2 hh
      rw [hX] at hx1
      subst hx1
      by_cases hil : i < ps.length
      · obtain ⟨p, hp⟩ : ∃ p, ps[i]? = some p := ⟨_, List.getElem?_eq_getElem hil⟩
        have hpb := hasP_no hh hp
        obtain ⟨b', o', rfl, hc⟩ := ext_at hBB hp
        have he := ext_of hc
        unfold psE at he
        clear hX hasc i2
        repeat (first | refine l_val rfl rfl (by first | exact v_add rfl rfl (by omega) (by omega) | exact pureEval_ok rfl | exact v_load rfl (by repeat (first | exact List.Mem.head _ | apply List.Mem.tail)) rfl (by rfl) | exact v_load_ext0 rfl (by assumption) rfl (by rfl) | exact v_index rfl rfl rfl rfl (by omega) (by omega) (by with_reducible first | exact idx4 _ _ _  ) ) ?_ | refine l_nil ?_ | refine c_region ?_ | refine c_seq ?_ | refine x_then ?_ | refine c_false rfl ?_ | refine c_dec_t rfl (by first | omega ) ?_ | refine c_dec_f rfl (by first | omega ) ?_ | refine c_block ?_ | refine c_skip ?_ | refine x_block ?_ | refine l_dec_t rfl rfl rfl rfl rfl (by first | omega ) ?_ | (refine r_call rfl rfl rfl (fun W hW => hTk W (hA.sat hW)) ?_) )
        refine x_back (k + 1, i) ⟨hlt, hnx⟩ (by simp only; omega) ?_ (by repeat (first | exact MSub.nil | refine MSub.keep (by first | rfl | assumption) ?_ | refine MSub.drop ?_ | exact MSub.refl _))
        simp only
        rw [hS', hs, Int.add_zero]
        exact (by repeat (first | exact EnvSub.nil | refine EnvSub.cons rfl (by first | rfl | (congr 1; done) | (exact congrArg (Value.int _) (by omega)) | (simp; done)) ?_))
      · clear hX hasc i2
        repeat (first | refine l_val rfl rfl (by first | exact v_add rfl rfl (by omega) (by omega) | exact pureEval_ok rfl | exact v_load rfl (by repeat (first | exact List.Mem.head _ | apply List.Mem.tail)) rfl (by rfl) ) ?_ | refine l_nil ?_ | refine c_region ?_ | refine c_seq ?_ | refine x_then ?_ | refine l_skip rfl rfl ?_ | refine c_false rfl ?_ | refine c_dec_t rfl (by first | omega ) ?_ | refine c_block ?_ | refine c_skip ?_ | refine x_block ?_ | refine l_dec_f rfl rfl rfl rfl rfl (by first | omega ) ?_ | (refine r_call rfl rfl rfl (fun W hW => hTk W (hA.sat hW)) ?_) )
        refine x_back (k + 1, i) ⟨hlt, hnx⟩ (by simp only; omega) ?_ (by repeat (first | exact MSub.nil | refine MSub.keep (by first | rfl | assumption) ?_ | refine MSub.drop ?_ | exact MSub.refl _))
        simp only
        rw [hS', hs, Int.add_zero]
        exact (by repeat (first | exact EnvSub.nil | refine EnvSub.cons rfl (by first | rfl | (congr 1; done) | (exact congrArg (Value.int _) (by omega)) | (simp; done)) ?_))
  have hk : k = M := by omega
  subst hk
  repeat (first | refine l_val rfl rfl (by first | exact pureEval_ok rfl ) ?_ | refine l_nil ?_ | refine c_region ?_ | refine c_seq ?_ | refine x_then ?_ | refine c_dec_f rfl (by first | omega ) ?_ | refine c_ret ?_ | refine c_exit ?_ | refine x_then_exit ?_ | refine x_block_same ?_ )
  exact x_ret rfl rfl (by repeat (first | exact Res.nil | (apply Res.tmp; rfl) | (apply Res.cell; rfl; exact (by repeat (first | exact List.Mem.head _ | apply List.Mem.tail)); rfl; rfl))) rfl (fun W hW => ⟨rfl, hW.below⟩)
end R13
end Go.Proofs

set_option linter.unusedSectionVars false
set_option linter.unusedVariables false
set_option linter.unusedSimpArgs false
namespace Go.Proofs
open Go.RowKit Go.Kin Go.Kin.Tm
namespace R13
/-! ## The examples -/
def exC (A : Option Addr) : Clk := ⟨7, [⟨0, 1000, 0⟩, ⟨4, 900, -50⟩], [], [], A, none, none, 2, 0, 0⟩
def exT (A B : Option Addr) : Clk := ⟨2, [⟨0, 10, 0⟩], [⟨0, 2, 3, 5⟩], [], A, B, none, 1, 1, 0⟩
def exO (A : Option Addr) : Clk := ⟨1, [⟨0, 10, 0⟩], [], [], A, none, none, 1, 0, 0⟩
def exE : Clk := ⟨0, [], [], [], none, none, none, 0, 0, 0⟩
def exL (A : Option Addr) : Clk := ⟨1, [⟨0, 65537, 0⟩], [], [], A, none, none, 1, 0, 0⟩
def exM (A : Option Addr) : Clk := ⟨3, [⟨0, 100, -50⟩], [], [], A, none, none, 1, 0, 0⟩
theorem sm_of {c : Clk} (h1 : c.ts.length ≤ 5) (h2 : c.ps.length ≤ 5) (h3 : c.sp.length ≤ 5) : c.Sm := ⟨by omega, by omega, by omega⟩
theorem tC3 (A : Option Addr) : v2 (tkA (exC A) 3) = .tuple ⟨[.int .i64 1000, .int .i64 0]⟩ := by
  have h : tkA (exC A) 3 = tkA (exC none) 3 := rfl
  rw [h, show tkA (exC none) 3 = (1000, 0) by decide +kernel]; rfl
theorem tC4 (A : Option Addr) : v2 (tkA (exC A) 4) = .tuple ⟨[.int .i64 900, .int .i64 0]⟩ := by
  have h : tkA (exC A) 4 = tkA (exC none) 4 := rfl
  rw [h, show tkA (exC none) 4 = (900, 0) by decide +kernel]; rfl
theorem tC6 (A : Option Addr) : v2 (tkA (exC A) 6) = .tuple ⟨[.int .i64 800, .int .i64 0]⟩ := by
  have h : tkA (exC A) 6 = tkA (exC none) 6 := rfl
  rw [h, show tkA (exC none) 6 = (800, 0) by decide +kernel]; rfl
theorem aC0 (A : Option Addr) : v3 (atA (exC A) 0 1 3) = .tuple ⟨[.int .i64 333, .int .i64 334, .int .i64 0]⟩ := by
  have h : atA (exC A) 0 1 3 = atA (exC none) 0 1 3 := rfl
  rw [h, show atA (exC none) 0 1 3 = (333, 334, 0) by decide +kernel]; rfl
theorem aC3 (A : Option Addr) : v3 (atA (exC A) 3 1 4) = .tuple ⟨[.int .i64 250, .int .i64 250, .int .i64 0]⟩ := by
  have h : atA (exC A) 3 1 4 = atA (exC none) 3 1 4 := rfl
  rw [h, show atA (exC none) 3 1 4 = (250, 250, 0) by decide +kernel]; rfl
theorem bT1 (A B : Option Addr) : vB (bgA (exT A B) 1) = .tuple ⟨[.agg ⟨[.int .i64 13, .int .i64 15]⟩, .int .i64 0]⟩ := by
  have h : bgA (exT A B) 1 = bgA (exT none none) 1 := rfl
  rw [h, show bgA (exT none none) 1 = ((13, 15), 0) by decide +kernel]; rfl
theorem lT5 (A B : Option Addr) : v2 (lnA (exT A B) [5]) = .tuple ⟨[.int .i64 25, .int .i64 0]⟩ := by
  have h : lnA (exT A B) [5] = lnA (exT none none) [5] := rfl
  rw [h, show lnA (exT none none) [5] = (25, 0) by decide +kernel]; rfl
theorem cT12 (A B : Option Addr) : v4 (lcA (exT A B) [5] 12) = .tuple ⟨[.int .i64 0, .int .i64 2, .bool false, .int .i64 0]⟩ := by
  have h : lcA (exT A B) [5] 12 = lcA (exT none none) [5] 12 := rfl
  rw [h, show lcA (exT none none) [5] 12 = ((0, 2, false), 0) by decide +kernel]; rfl
theorem cT15 (A B : Option Addr) : v4 (lcA (exT A B) [5] 15) = .tuple ⟨[.int .i64 1, .int .i64 0, .bool true, .int .i64 0]⟩ := by
  have h : lcA (exT A B) [5] 15 = lcA (exT none none) [5] 15 := rfl
  rw [h, show lcA (exT none none) [5] 15 = ((1, 0, true), 0) by decide +kernel]; rfl
theorem cO10 (A : Option Addr) : v4 (lcA (exO A) [] 10) = .tuple ⟨[.int .i64 0, .int .i64 0, .bool false, .int .i64 1]⟩ := by
  have h : lcA (exO A) [] 10 = lcA (exO none) [] 10 := rfl
  rw [h, show lcA (exO none) [] 10 = ((0, 0, false), 1) by decide +kernel]; rfl
theorem kE : exE.k = 130 := by decide +kernel
theorem kL (A : Option Addr) : (exL A).k = 130 := by
  have h : (exL A).k = (exL none).k := rfl
  rw [h]; decide +kernel
theorem kM (A : Option Addr) : (exM A).k = 130 := by
  have h : (exM A).k = (exM none).k := rfl
  rw [h]; decide +kernel

set_option maxRecDepth 100000 in
set_option maxHeartbeats 4000000 in
theorem sane_calls (w : World) : Calls Try.prog 10 ⟨[]⟩ w fun e w' => e = .returned (.bool true) ∧ Below w.heap.size w w' := by
  refine fun_enter Try.func10 rfl Try.ntmps10 rfl rfl (satW_nil w) ?_
  repeat ((fail_if_success refine c_probe (id := 2) ?_); (fail_if_success refine c_probe1 (id := 2) ?_); first | refine l_val rfl rfl (by first | exact pureEval_ok rfl | exact v_build rfl rfl (by rfl) ) ?_ | refine l_nil ?_ | refine c_region ?_ | refine c_seq ?_ | refine x_then ?_ | refine r_alloc rfl rfl rfl (by first | exact aggL ) (fun _ => ?_) | refine r_store rfl rfl rfl rfl rfl rfl rfl (by repeat (first | exact Upd.head | apply Upd.tail)) (by rfl) ?_ | refine r_buildSlice rfl rfl rfl rfl rfl rfl (by rfl) (fun _ => ?_) )
  rename_i bA b1
  have hC : ∀ {mem : List (Nat × Obj)}, (bA, Obj.cells ⟨[.int .i64 0, .int .i64 1000, .int .i64 0, .int .i64 4, .int .i64 900, .int .i64 (-50)]⟩ 57 (0, 0)) ∈ mem → ∀ W, SatW w (base w) noJ mem W → (exC (some ⟨bA, 0, none⟩)).In W :=
    fun hm W hW => ⟨hW.rows hm (rest := []) rfl (tp_len _), at_nil _ _, at_nil _ _⟩
  have sC : (exC (some ⟨bA, 0, none⟩)).Sm := sm_of (Nat.le_of_ble_eq_true rfl) (Nat.le_of_ble_eq_true rfl) (Nat.le_of_ble_eq_true rfl)
  repeat (first | refine l_val rfl rfl (by first | exact v_load rfl (by repeat (first | exact List.Mem.head _ | apply List.Mem.tail)) rfl (by rfl) ) ?_ | refine c_region ?_ | refine c_seq ?_ )
  refine r_call rfl rfl rfl (fun W hW => tC3 (some ⟨bA, 0, none⟩) ▸ Ticks_calls (exC (some ⟨bA, 0, none⟩)) 3 W sC (hC (by repeat (first | exact List.Mem.head _ | apply List.Mem.tail)) W hW)) ?_
  repeat (first | refine l_val rfl rfl (by first | exact pureEval_ok rfl | exact v_load rfl (by repeat (first | exact List.Mem.head _ | apply List.Mem.tail)) rfl (by rfl) ) ?_ | refine l_nil ?_ | refine c_region ?_ | refine c_seq ?_ | refine x_then ?_ )
  refine r_call rfl rfl rfl (fun W hW => tC4 (some ⟨bA, 0, none⟩) ▸ Ticks_calls (exC (some ⟨bA, 0, none⟩)) 4 W sC (hC (by repeat (first | exact List.Mem.head _ | apply List.Mem.tail)) W hW)) ?_
  repeat (first | refine l_val rfl rfl (by first | exact pureEval_ok rfl | exact v_load rfl (by repeat (first | exact List.Mem.head _ | apply List.Mem.tail)) rfl (by rfl) ) ?_ | refine l_nil ?_ | refine c_region ?_ | refine c_seq ?_ | refine x_then ?_ )
  refine r_call rfl rfl rfl (fun W hW => tC6 (some ⟨bA, 0, none⟩) ▸ Ticks_calls (exC (some ⟨bA, 0, none⟩)) 6 W sC (hC (by repeat (first | exact List.Mem.head _ | apply List.Mem.tail)) W hW)) ?_
  repeat (first | refine l_val rfl rfl (by first | exact pureEval_ok rfl | exact v_load rfl (by repeat (first | exact List.Mem.head _ | apply List.Mem.tail)) rfl (by rfl) | exact v_build rfl rfl (by rfl) ) ?_ | refine l_nil ?_ | refine c_region ?_ | refine c_seq ?_ | refine x_then ?_ )
  refine r_call rfl rfl rfl (fun W hW => aC0 (some ⟨bA, 0, none⟩) ▸ At_calls (exC (some ⟨bA, 0, none⟩)) 0 1 3 W sC (hC (by repeat (first | exact List.Mem.head _ | apply List.Mem.tail)) W hW) (by decide) (by decide)) ?_
  repeat (first | refine l_val rfl rfl (by first | exact pureEval_ok rfl | exact v_load rfl (by repeat (first | exact List.Mem.head _ | apply List.Mem.tail)) rfl (by rfl) | exact v_build rfl rfl (by rfl) ) ?_ | refine l_nil ?_ | refine c_region ?_ | refine c_seq ?_ | refine x_then ?_ )
  refine r_call rfl rfl rfl (fun W hW => aC3 (some ⟨bA, 0, none⟩) ▸ At_calls (exC (some ⟨bA, 0, none⟩)) 3 1 4 W sC (hC (by repeat (first | exact List.Mem.head _ | apply List.Mem.tail)) W hW) (by decide) (by decide)) ?_
  repeat (first | refine l_val rfl rfl (by first | exact pureEval_ok rfl | exact v_build rfl rfl (by rfl) ) ?_ | refine l_nil ?_ | refine c_region ?_ | refine c_seq ?_ | refine x_then ?_ | refine r_buildSlice rfl rfl rfl rfl rfl rfl (by rfl) (fun _ => ?_) )
  rename_i bP
  refine r_call1 (ι := Nat) (bk := fun b => b) rfl rfl rfl (fun W hW => plain_calls 2 (some ⟨bP, 0, none⟩) 1 1 W) (fun bQ => ?_)
  repeat ((fail_if_success refine c_probe (id := 8) ?_); (fail_if_success refine c_probe1 (id := 8) ?_); first | refine l_nil ?_ | refine x_then ?_ | refine r_alloc rfl rfl rfl (by first | exact aggL ) (fun _ => ?_) | refine r_store rfl rfl rfl rfl rfl rfl rfl (by repeat (first | exact Upd.head | apply Upd.tail)) (by rfl) ?_ )
  have hT : ∀ {mem : List (Nat × Obj)}, (bQ, Obj.cells ⟨[.int .i64 0, .int .i64 10, .int .i64 0]⟩ 57 (0, 0)) ∈ mem → (bP, Obj.cells ⟨[.int .i64 0, .int .i64 2, .int .i64 3, .int .i64 5]⟩ 53 (0, 0)) ∈ mem → ∀ W, SatW w (base w) noJ mem W → (exT (some ⟨bQ, 0, none⟩) (some ⟨bP, 0, none⟩)).In W :=
    fun hm hm2 W hW => ⟨hW.rows hm (rest := []) rfl (tp_len _), hW.rows hm2 (rest := []) rfl (ps_len _), at_nil _ _⟩
  have sT : (exT (some ⟨bQ, 0, none⟩) (some ⟨bP, 0, none⟩)).Sm := sm_of (Nat.le_of_ble_eq_true rfl) (Nat.le_of_ble_eq_true rfl) (Nat.le_of_ble_eq_true rfl)
  repeat (first | refine l_val rfl rfl (by first | exact v_load rfl (by repeat (first | exact List.Mem.head _ | apply List.Mem.tail)) rfl (by rfl) ) ?_ | refine c_region ?_ | refine c_seq ?_ )
  refine r_call rfl rfl rfl (fun W hW => bT1 (some ⟨bQ, 0, none⟩) (some ⟨bP, 0, none⟩) ▸ Begin_calls (exT (some ⟨bQ, 0, none⟩) (some ⟨bP, 0, none⟩)) 1 W sT (hT (by repeat (first | exact List.Mem.head _ | apply List.Mem.tail)) (by repeat (first | exact List.Mem.head _ | apply List.Mem.tail)) W hW)) ?_
  repeat ((fail_if_success refine c_probe (id := 9) ?_); (fail_if_success refine c_probe1 (id := 9) ?_); first | refine l_val rfl rfl (by first | exact pureEval_ok rfl ) ?_ | refine l_nil ?_ | refine x_then ?_ | refine r_alloc rfl rfl rfl (by first | exact aggL ) (fun _ => ?_) | refine r_store rfl rfl rfl rfl rfl rfl rfl (by repeat (first | exact Upd.head | apply Upd.tail)) (by rfl) ?_ )
  repeat (first | refine l_val rfl rfl (by first | exact v_load rfl (by repeat (first | exact List.Mem.head _ | apply List.Mem.tail)) rfl (by rfl) ) ?_ | refine c_region ?_ | refine c_seq ?_ | refine r_buildSlice rfl rfl rfl rfl rfl rfl (by rfl) (fun _ => ?_) )
  rename_i b5
  refine r_call rfl rfl rfl (fun W hW => lT5 (some ⟨bQ, 0, none⟩) (some ⟨bP, 0, none⟩) ▸ Length_calls (exT (some ⟨bQ, 0, none⟩) (some ⟨bP, 0, none⟩)) (some ⟨b5, 0, none⟩) 1 [5] W sT (by decide) (hT (by repeat (first | exact List.Mem.head _ | apply List.Mem.tail)) (by repeat (first | exact List.Mem.head _ | apply List.Mem.tail)) W hW) (hW.rows (b := b5) (by repeat (first | exact List.Mem.head _ | apply List.Mem.tail)) (rest := []) rfl (in_len _))) ?_
  repeat ((fail_if_success refine c_probe (id := 10) ?_); (fail_if_success refine c_probe1 (id := 10) ?_); first | refine l_val rfl rfl (by first | exact pureEval_ok rfl ) ?_ | refine l_nil ?_ | refine x_then ?_ )
  repeat (first | refine l_val rfl rfl (by first | exact v_load rfl (by repeat (first | exact List.Mem.head _ | apply List.Mem.tail)) rfl (by rfl) ) ?_ | refine c_region ?_ | refine c_seq ?_ | refine r_buildSlice rfl rfl rfl rfl rfl rfl (by rfl) (fun _ => ?_) )
  rename_i b6
  refine r_call rfl rfl rfl (fun W hW => cT12 (some ⟨bQ, 0, none⟩) (some ⟨bP, 0, none⟩) ▸ Locate_calls (exT (some ⟨bQ, 0, none⟩) (some ⟨bP, 0, none⟩)) (some ⟨b6, 0, none⟩) 1 [5] 12 W sT (by decide) (hT (by repeat (first | exact List.Mem.head _ | apply List.Mem.tail)) (by repeat (first | exact List.Mem.head _ | apply List.Mem.tail)) W hW) (hW.rows (b := b6) (by repeat (first | exact List.Mem.head _ | apply List.Mem.tail)) (rest := []) rfl (in_len _)) (by decide)) ?_
  repeat ((fail_if_success refine c_probe (id := 11) ?_); (fail_if_success refine c_probe1 (id := 11) ?_); first | refine l_val rfl rfl (by first | exact pureEval_ok rfl ) ?_ | refine l_nil ?_ | refine x_then ?_ )
  repeat (first | refine l_val rfl rfl (by first | exact v_load rfl (by repeat (first | exact List.Mem.head _ | apply List.Mem.tail)) rfl (by rfl) ) ?_ | refine c_region ?_ | refine c_seq ?_ | refine r_buildSlice rfl rfl rfl rfl rfl rfl (by rfl) (fun _ => ?_) )
  rename_i b7
  refine r_call rfl rfl rfl (fun W hW => cT15 (some ⟨bQ, 0, none⟩) (some ⟨bP, 0, none⟩) ▸ Locate_calls (exT (some ⟨bQ, 0, none⟩) (some ⟨bP, 0, none⟩)) (some ⟨b7, 0, none⟩) 1 [5] 15 W sT (by decide) (hT (by repeat (first | exact List.Mem.head _ | apply List.Mem.tail)) (by repeat (first | exact List.Mem.head _ | apply List.Mem.tail)) W hW) (hW.rows (b := b7) (by repeat (first | exact List.Mem.head _ | apply List.Mem.tail)) (rest := []) rfl (in_len _)) (by decide)) ?_
  repeat (first | refine l_val rfl rfl (by first | exact pureEval_ok rfl ) ?_ | refine l_nil ?_ | refine c_region ?_ | refine c_seq ?_ | refine x_then ?_ )
  refine r_call1 (ι := Nat) (bk := fun b => b) rfl rfl rfl (fun W hW => plain_calls 1 none 0 0 W) (fun b8 => ?_)
  skip
  refine r_call rfl rfl rfl (fun W hW => cO10 (some ⟨b8, 0, none⟩) ▸ Locate_calls (exO (some ⟨b8, 0, none⟩)) none 0 [] 10 W (sm_of (Nat.le_of_ble_eq_true rfl) (Nat.le_of_ble_eq_true rfl) (Nat.le_of_ble_eq_true rfl)) (by decide) ⟨hW.rows (b := b8) (by repeat (first | exact List.Mem.head _ | apply List.Mem.tail)) (rest := []) rfl (tp_len _), at_nil _ _, at_nil _ _⟩ (at_nil _ _) (by decide)) ?_
  repeat (first | refine l_val rfl rfl (by first | exact pureEval_ok rfl | exact v_build rfl rfl (by rfl) ) ?_ | refine l_nil ?_ | refine c_region ?_ | refine c_seq ?_ | refine x_then ?_ | refine c_false rfl ?_ | refine c_skip ?_ )
  refine r_call rfl rfl rfl (fun W hW => kE ▸ check_k exE W (sm_of (Nat.le_of_ble_eq_true rfl) (Nat.le_of_ble_eq_true rfl) (Nat.le_of_ble_eq_true rfl)) ⟨at_nil _ _, at_nil _ _, at_nil _ _⟩) ?_
  repeat (first | refine l_val rfl rfl (by first | exact pureEval_ok rfl | exact v_build rfl rfl (by rfl) ) ?_ | refine r_buildSlice rfl rfl rfl rfl rfl rfl (by rfl) (fun _ => ?_) | refine l_dec_f rfl rfl rfl rfl rfl (by first | omega | exact fun h => h rfl ) ?_ )
  rename_i b9
  refine r_call rfl rfl rfl (fun W hW => kL (some ⟨b9, 0, none⟩) ▸ check_k (exL (some ⟨b9, 0, none⟩)) W (sm_of (Nat.le_of_ble_eq_true rfl) (Nat.le_of_ble_eq_true rfl) (Nat.le_of_ble_eq_true rfl)) ⟨hW.rows (b := b9) (by repeat (first | exact List.Mem.head _ | apply List.Mem.tail)) (rest := []) rfl (tp_len _), at_nil _ _, at_nil _ _⟩) ?_
  repeat (first | refine l_val rfl rfl (by first | exact pureEval_ok rfl | exact v_build rfl rfl (by rfl) ) ?_ | refine r_buildSlice rfl rfl rfl rfl rfl rfl (by rfl) (fun _ => ?_) | refine l_dec_f rfl rfl rfl rfl rfl (by first | omega | exact fun h => h rfl ) ?_ )
  rename_i b10
  refine r_call rfl rfl rfl (fun W hW => kM (some ⟨b10, 0, none⟩) ▸ check_k (exM (some ⟨b10, 0, none⟩)) W (sm_of (Nat.le_of_ble_eq_true rfl) (Nat.le_of_ble_eq_true rfl) (Nat.le_of_ble_eq_true rfl)) ⟨hW.rows (b := b10) (by repeat (first | exact List.Mem.head _ | apply List.Mem.tail)) (rest := []) rfl (tp_len _), at_nil _ _, at_nil _ _⟩) ?_
  repeat (first | refine l_val rfl rfl (by first | exact pureEval_ok rfl | exact v_load rfl (by repeat (first | exact List.Mem.head _ | apply List.Mem.tail)) rfl (by rfl) | exact v_build rfl rfl (by rfl) | exact v_eqS rfl rfl rfl rfl ) ?_ | refine l_nil ?_ | refine c_region ?_ | refine c_seq ?_ | refine x_then ?_ | refine c_false rfl ?_ | refine c_skip ?_ | refine c_ret ?_ )
  exact x_ret rfl rfl (by repeat (first | exact Res.nil | (apply Res.tmp; rfl) | (apply Res.cell; rfl; exact (by repeat (first | exact List.Mem.head _ | apply List.Mem.tail)); rfl; rfl))) rfl (fun W hW => ⟨by first | rfl | (simp; done), hW.below⟩)
end R13
end Go.Proofs
