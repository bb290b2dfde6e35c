/- Collating: small functions, digits, codes. -/
import Derived.Test.YtobiefdkpiognaaTy
import Derived.Test.YtobiefdkpiognaaEng26
import Derived.Test.YtobiefdkpiognaaClPair
set_option linter.unusedSectionVars false
set_option linter.unusedVariables false
set_option linter.unusedSimpArgs false
namespace Go.Proofs
open Go.RowKit Go.Kin Go.Kin.Cl
namespace R41
def inE (x : Int) : List Value := [.int .i64 x]
theorem ext_at {w : World} {A : Option Addr} {sz : Nat} {α : Type} {f : α → List Value} {l : List α} (hA : Kin.At w A sz (l.map f)) {i : Nat} {x : α} (hx : l[i]? = some x) : ∃ b o, A = some ⟨b, o, none⟩ ∧ ∀ j v, (f x)[j]? = some v → w.cell? ⟨b, o + i * sz + j, none⟩ = some v :=
  hA i (f x) (by simp [hx])
theorem ext_own {W : World} {b : Nat} {cs : List Value} {T : TypeId} {fr : Nat × Nat} (h : W.heap[b]? = some (.cells ⟨cs⟩ T fr)) : Ext W (base W) b 0 cs := ⟨lt_of_heap h, fun i v hi => by
  unfold World.cell?; rw [h, Nat.zero_add]; simpa using hi⟩
theorem in_len (l : List Int) : ∀ r ∈ l.map inE, r.length = 1 := fun r hr => by obtain ⟨x, _, rfl⟩ := List.mem_map.1 hr; rfl

theorem within_calls (n lo hi : Int) (w : World) : Calls Try.prog 42 ⟨[.int .i64 n, .int .i64 lo, .int .i64 hi]⟩ w fun e w' => e = .returned (.bool (decide (lo ≤ n ∧ n ≤ hi))) ∧ Below w.heap.size w w' := by
  refine fun_enter Try.func42 rfl Try.ntmps42 rfl rfl (satW_nil w) ?_
  repeat' (first | refine l_val rfl rfl (by first | exact pureEval_ok rfl ) ?_ | refine l_nil ?_ | refine c_region ?_ | refine c_seq ?_ | refine x_then ?_ | refine l_skip rfl rfl ?_ | refine c_ret ?_ | refine l_dec rfl rfl rfl rfl rfl (fun _ => ?_) (fun _ => ?_) )
  · refine x_ret rfl rfl (by repeat (first | exact Res.nil | (apply Res.tmp; rfl) | (apply Res.cell; rfl; exact (by repeat (first | exact List.Mem.head _ | apply List.Mem.tail)); rfl; rfl))) rfl (fun W hW => ⟨?_, hW.below⟩)
    simp_all <;> omega
  · refine x_ret rfl rfl (by repeat (first | exact Res.nil | (apply Res.tmp; rfl) | (apply Res.cell; rfl; exact (by repeat (first | exact List.Mem.head _ | apply List.Mem.tail)); rfl; rfl))) rfl (fun W hW => ⟨?_, hW.below⟩)
    simp_all <;> omega
theorem ewithin_calls (n lo hi : Int) (w : World) : Calls Try.prog 55 ⟨[.int .i64 n, .int .i64 lo, .int .i64 hi]⟩ w fun e w' => e = .returned (.bool (decide (lo ≤ n ∧ n ≤ hi))) ∧ Below w.heap.size w w' := by
  refine fun_enter Try.func55 rfl Try.ntmps55 rfl rfl (satW_nil w) ?_
  repeat' (first | refine l_val rfl rfl (by first | exact pureEval_ok rfl ) ?_ | refine l_nil ?_ | refine c_region ?_ | refine c_seq ?_ | refine x_then ?_ | refine l_skip rfl rfl ?_ | refine c_ret ?_ | refine l_dec rfl rfl rfl rfl rfl (fun _ => ?_) (fun _ => ?_) )
  · refine x_ret rfl rfl (by repeat (first | exact Res.nil | (apply Res.tmp; rfl) | (apply Res.cell; rfl; exact (by repeat (first | exact List.Mem.head _ | apply List.Mem.tail)); rfl; rfl))) rfl (fun W hW => ⟨?_, hW.below⟩)
    simp_all <;> omega
  · refine x_ret rfl rfl (by repeat (first | exact Res.nil | (apply Res.tmp; rfl) | (apply Res.cell; rfl; exact (by repeat (first | exact List.Mem.head _ | apply List.Mem.tail)); rfl; rfl))) rfl (fun W hW => ⟨?_, hW.below⟩)
    simp_all <;> omega
theorem fwithin_calls (n lo hi : Int) (w : World) : Calls Try.prog 57 ⟨[.int .i64 n, .int .i64 lo, .int .i64 hi]⟩ w fun e w' => e = .returned (.bool (decide (lo ≤ n ∧ n ≤ hi))) ∧ Below w.heap.size w w' := by
  refine fun_enter Try.func57 rfl Try.ntmps57 rfl rfl (satW_nil w) ?_
  repeat' (first | refine l_val rfl rfl (by first | exact pureEval_ok rfl ) ?_ | refine l_nil ?_ | refine c_region ?_ | refine c_seq ?_ | refine x_then ?_ | refine l_skip rfl rfl ?_ | refine c_ret ?_ | refine l_dec rfl rfl rfl rfl rfl (fun _ => ?_) (fun _ => ?_) )
  · refine x_ret rfl rfl (by repeat (first | exact Res.nil | (apply Res.tmp; rfl) | (apply Res.cell; rfl; exact (by repeat (first | exact List.Mem.head _ | apply List.Mem.tail)); rfl; rfl))) rfl (fun W hW => ⟨?_, hW.below⟩)
    simp_all <;> omega
  · refine x_ret rfl rfl (by repeat (first | exact Res.nil | (apply Res.tmp; rfl) | (apply Res.cell; rfl; exact (by repeat (first | exact List.Mem.head _ | apply List.Mem.tail)); rfl; rfl))) rfl (fun W hW => ⟨?_, hW.below⟩)
    simp_all <;> omega
theorem bes_eq {x y : Int} (h : x = y) : bes x y = 0 := by unfold bes; rw [if_neg (fun g => g.1 h)]
theorem bes_x {x y : Int} (h : x = 8589934592) : bes x y = 0 := by unfold bes; rw [if_neg (fun g => g.2.1 h)]
theorem bes_y {x y : Int} (h : y = 8589934592) : bes x y = 0 := by unfold bes; rw [if_neg (fun g => g.2.2 h)]
theorem bes_ne {x y : Int} (h1 : ¬ x = y) (h2 : ¬ x = 8589934592) (h3 : ¬ y = 8589934592) : bes x y = 3 := by unfold bes; rw [if_pos ⟨h1, h2, h3⟩]
theorem beside_calls (x y : Int) (w : World) : Calls Try.prog 47 ⟨[.int .i64 x, .int .i64 y]⟩ w fun e w' => e = .returned (.int .i64 (bes x y)) ∧ Below w.heap.size w w' := by
  refine fun_enter Try.func47 rfl Try.ntmps47 rfl rfl (satW_nil w) ?_
  by_cases h1 : x = y
  · repeat (first | refine l_val rfl rfl (by first | exact pureEval_ok rfl ) ?_ | refine l_nil ?_ | refine c_region ?_ | refine c_seq ?_ | refine x_then ?_ | refine l_skip rfl rfl ?_ | refine c_false rfl ?_ | refine c_skip ?_ | refine c_ret ?_ | refine l_dec_f rfl rfl rfl rfl rfl (by first | omega ) ?_ )
    exact x_ret rfl rfl (by repeat (first | exact Res.nil | (apply Res.tmp; rfl) | (apply Res.cell; rfl; exact (by repeat (first | exact List.Mem.head _ | apply List.Mem.tail)); rfl; rfl))) rfl (fun W hW => ⟨by rw [bes_eq h1], hW.below⟩)
  by_cases h2 : x = 8589934592
  · repeat (first | refine l_val rfl rfl (by first | exact pureEval_ok rfl ) ?_ | refine l_nil ?_ | refine c_region ?_ | refine c_seq ?_ | refine x_then ?_ | refine l_skip rfl rfl ?_ | refine c_false rfl ?_ | refine c_skip ?_ | refine c_ret ?_ | refine l_dec_t rfl rfl rfl rfl rfl (by first | omega ) ?_ | refine l_dec_f rfl rfl rfl rfl rfl (by first | omega ) ?_ )
    exact x_ret rfl rfl (by repeat (first | exact Res.nil | (apply Res.tmp; rfl) | (apply Res.cell; rfl; exact (by repeat (first | exact List.Mem.head _ | apply List.Mem.tail)); rfl; rfl))) rfl (fun W hW => ⟨by rw [bes_x h2], hW.below⟩)
  by_cases h3 : y = 8589934592
  · repeat (first | refine l_val rfl rfl (by first | exact pureEval_ok rfl ) ?_ | refine l_nil ?_ | refine c_region ?_ | refine c_seq ?_ | refine x_then ?_ | refine c_dec_f rfl (by first | omega ) ?_ | refine c_skip ?_ | refine c_ret ?_ | refine l_dec_t rfl rfl rfl rfl rfl (by first | omega ) ?_ )
    exact x_ret rfl rfl (by repeat (first | exact Res.nil | (apply Res.tmp; rfl) | (apply Res.cell; rfl; exact (by repeat (first | exact List.Mem.head _ | apply List.Mem.tail)); rfl; rfl))) rfl (fun W hW => ⟨by rw [bes_y h3], hW.below⟩)
  repeat (first | refine l_val rfl rfl (by first | exact pureEval_ok rfl ) ?_ | refine l_nil ?_ | refine c_region ?_ | refine c_seq ?_ | refine x_then ?_ | refine c_dec_t rfl (by first | omega ) ?_ | refine c_ret ?_ | refine x_then_ret ?_ | refine l_dec_t rfl rfl rfl rfl rfl (by first | omega ) ?_ )
  exact x_ret rfl rfl (by repeat (first | exact Res.nil | (apply Res.tmp; rfl) | (apply Res.cell; rfl; exact (by repeat (first | exact List.Mem.head _ | apply List.Mem.tail)); rfl; rfl))) rfl (fun W hW => ⟨by rw [bes_ne h1 h2 h3], hW.below⟩)
theorem Beside_calls (x y : Int) (w : World) : Calls Try.prog 32 ⟨[.int .i64 x, .int .i64 y]⟩ w fun e w' => e = .returned (.int .i64 (bes x y)) ∧ Below w.heap.size w w' := by
  refine fun_enter Try.func32 rfl Try.ntmps32 rfl rfl (satW_nil w) ?_
  by_cases h1 : x = y
  · repeat (first | refine l_val rfl rfl (by first | exact pureEval_ok rfl ) ?_ | refine l_nil ?_ | refine c_region ?_ | refine c_seq ?_ | refine x_then ?_ | refine l_skip rfl rfl ?_ | refine c_true rfl ?_ | refine c_ret ?_ | refine x_then_ret ?_ | refine l_dec_t rfl rfl rfl rfl rfl (by first | omega ) ?_ )
    exact x_ret rfl rfl (by repeat (first | exact Res.nil | (apply Res.tmp; rfl) | (apply Res.cell; rfl; exact (by repeat (first | exact List.Mem.head _ | apply List.Mem.tail)); rfl; rfl))) rfl (fun W hW => ⟨by rw [bes_eq h1], hW.below⟩)
  by_cases h2 : x = 8589934592
  · repeat (first | refine l_val rfl rfl (by first | exact pureEval_ok rfl ) ?_ | refine l_nil ?_ | refine c_region ?_ | refine c_seq ?_ | refine x_then ?_ | refine l_skip rfl rfl ?_ | refine c_true rfl ?_ | refine c_ret ?_ | refine x_then_ret ?_ | refine l_dec_t rfl rfl rfl rfl rfl (by first | omega ) ?_ | refine l_dec_f rfl rfl rfl rfl rfl (by first | omega ) ?_ )
    exact x_ret rfl rfl (by repeat (first | exact Res.nil | (apply Res.tmp; rfl) | (apply Res.cell; rfl; exact (by repeat (first | exact List.Mem.head _ | apply List.Mem.tail)); rfl; rfl))) rfl (fun W hW => ⟨by rw [bes_x h2], hW.below⟩)
  by_cases h3 : y = 8589934592
  · repeat (first | refine l_val rfl rfl (by first | exact pureEval_ok rfl ) ?_ | refine l_nil ?_ | refine c_region ?_ | refine c_seq ?_ | refine x_then ?_ | refine c_dec_t rfl (by first | omega ) ?_ | refine c_ret ?_ | refine x_then_ret ?_ | refine l_dec_f rfl rfl rfl rfl rfl (by first | omega ) ?_ )
    exact x_ret rfl rfl (by repeat (first | exact Res.nil | (apply Res.tmp; rfl) | (apply Res.cell; rfl; exact (by repeat (first | exact List.Mem.head _ | apply List.Mem.tail)); rfl; rfl))) rfl (fun W hW => ⟨by rw [bes_y h3], hW.below⟩)
  repeat (first | refine l_val rfl rfl (by first | exact pureEval_ok rfl ) ?_ | refine l_nil ?_ | refine c_region ?_ | refine c_seq ?_ | refine x_then ?_ | refine c_dec_f rfl (by first | omega ) ?_ | refine c_skip ?_ | refine c_ret ?_ | refine l_dec_f rfl rfl rfl rfl rfl (by first | omega ) ?_ )
  exact x_ret rfl rfl (by repeat (first | exact Res.nil | (apply Res.tmp; rfl) | (apply Res.cell; rfl; exact (by repeat (first | exact List.Mem.head _ | apply List.Mem.tail)); rfl; rfl))) rfl (fun W hW => ⟨by rw [bes_ne h1 h2 h3], hW.below⟩)

theorem SameInts_calls (T U : Option Addr) (capT capU : Nat) (t u : List Int) (w : World) (ht : t.length ≤ 100000) (hu : u.length ≤ 100000) (hT : Kin.At w T 1 (t.map inE)) (hU : Kin.At w U 1 (u.map inE)) :
    Calls Try.prog 24 ⟨[.slice T t.length capT, .slice U u.length capU]⟩ w fun e w' => e = .returned (.bool (decide (t = u))) ∧ Below w.heap.size w w' := by
  refine fun_enter Try.func24 rfl Try.ntmps24 rfl rfl (satW_nil w) ?_
  by_cases hlen : t.length = u.length
  rotate_left
  · have hno : ¬ t = u := fun e => by subst e; exact hlen rfl
    repeat (first | refine l_val rfl rfl (by first | exact pureEval_ok rfl ) ?_ | refine l_nil ?_ | refine c_region ?_ | refine c_seq ?_ | refine x_then ?_ | refine c_dec_t rfl (by first | omega ) ?_ | refine c_ret ?_ | refine x_then_ret ?_ )
    exact x_ret rfl rfl (by repeat (first | exact Res.nil | (apply Res.tmp; rfl) | (apply Res.cell; rfl; exact (by repeat (first | exact List.Mem.head _ | apply List.Mem.tail)); rfl; rfl))) rfl (fun W hW => ⟨by rw [decide_eq_false hno], hW.below⟩)
  repeat (first | refine l_val rfl rfl (by first | exact pureEval_ok rfl ) ?_ | refine l_nil ?_ | refine c_region ?_ | refine c_seq ?_ | refine x_then ?_ | refine c_dec_f rfl (by first | omega | exact fun h => h rfl ) ?_ | refine c_block ?_ | refine c_skip ?_ )
  refine c_loop (ι := Nat) (fun k => k ≤ t.length ∧ (Unit → t.take k = u.take k)) (fun k => [(0, .slice T t.length capT), (1, .slice U u.length capU), (4, .bool false), (5, .int .i64 k)]) (fun _ => []) (fun k => t.length - k) 0 ⟨by omega, fun _ => rfl⟩ (by repeat (first | exact EnvSub.nil | refine EnvSub.cons rfl (by first | rfl | (congr 1; done) | (exact congrArg (Value.int _) (by omega)) | (simp; done)) ?_)) (by repeat (first | exact MSub.nil | refine MSub.keep (by first | rfl | assumption) ?_ | refine MSub.drop ?_ | exact MSub.refl _)) ?_
  rintro k ⟨hk, hM⟩
  by_cases hlt : k < t.length
  · obtain ⟨x, hx⟩ : ∃ x, t[k]? = some x := ⟨_, List.getElem?_eq_getElem hlt⟩
    obtain ⟨y, hy⟩ : ∃ y, u[k]? = some y := ⟨_, List.getElem?_eq_getElem (by omega)⟩
    obtain ⟨b1, o1, rfl, e1⟩ := ext_at hT hx
    obtain ⟨b2, o2, rfl, e2⟩ := ext_at hU hy
    have g1 := ext_of e1
    have g2 := ext_of e2
    rw [Nat.mul_one] at g1 g2
    by_cases hxy : x = y
    · repeat (first | refine l_val rfl rfl (by first | exact v_add rfl rfl (by omega) (by omega) | exact pureEval_ok rfl ) ?_ | refine l_nil ?_ | refine c_region ?_ | refine c_seq ?_ | refine x_then ?_ | refine c_dec_t rfl (by first | omega ) ?_ | refine c_dec_f rfl (by first | omega | exact fun h => h rfl ) ?_ | refine c_block ?_ | refine c_skip ?_ | refine x_block ?_ | refine c_reads rfl (by decide +kernel) ?_ | refine q_val rfl rfl (by first | exact pureEval_ok rfl | exact v_load_ext0 rfl (by assumption) rfl (by rfl) | exact v_index rfl rfl rfl rfl (by omega) (by omega) (by with_reducible first | exact idx2 _ _  ) ) ?_ | refine q_nil ?_ )
      refine x_back (k + 1) ⟨hlt, fun _ => ?_⟩ (by omega) (by repeat (first | exact EnvSub.nil | refine EnvSub.cons rfl (by first | rfl | (congr 1; done) | (exact congrArg (Value.int _) (by omega)) | (simp; done)) ?_)) (by repeat (first | exact MSub.nil | refine MSub.keep (by first | rfl | assumption) ?_ | refine MSub.drop ?_ | exact MSub.refl _))
      rw [List.take_add_one, List.take_add_one, hM (), hx, hy, hxy]
    · have hno : ¬ t = u := fun e => by subst e; rw [hx] at hy; cases hy; exact hxy rfl
      repeat (first | refine l_val rfl rfl (by first | exact pureEval_ok rfl ) ?_ | refine l_nil ?_ | refine c_region ?_ | refine c_seq ?_ | refine x_then ?_ | refine c_dec_t rfl (by first | omega ) ?_ | refine c_block ?_ | refine c_skip ?_ | refine c_ret ?_ | refine x_then_ret ?_ | refine x_block_ret ?_ | refine c_reads rfl (by decide +kernel) ?_ | refine q_val rfl rfl (by first | exact pureEval_ok rfl | exact v_load_ext0 rfl (by assumption) rfl (by rfl) | exact v_index rfl rfl rfl rfl (by omega) (by omega) (by with_reducible first | exact idx2 _ _  ) ) ?_ | refine q_nil ?_ )
      exact x_ret rfl rfl (by repeat (first | exact Res.nil | (apply Res.tmp; rfl) | (apply Res.cell; rfl; exact (by repeat (first | exact List.Mem.head _ | apply List.Mem.tail)); rfl; rfl))) rfl (fun W hW => ⟨by rw [decide_eq_false hno], hW.below⟩)
  · have hkl : k = t.length := by omega
    subst hkl
    have hyes : t = u := by have := hM (); rw [List.take_length, hlen, List.take_length] at this; exact this
    repeat (first | refine l_val rfl rfl (by first | exact pureEval_ok rfl ) ?_ | refine l_nil ?_ | refine c_region ?_ | refine c_seq ?_ | refine x_then ?_ | refine c_dec_f rfl (by first | omega ) ?_ | refine c_ret ?_ | refine c_exit ?_ | refine x_then_exit ?_ | refine x_block_same ?_ )
    exact x_ret rfl rfl (by repeat (first | exact Res.nil | (apply Res.tmp; rfl) | (apply Res.cell; rfl; exact (by repeat (first | exact List.Mem.head _ | apply List.Mem.tail)); rfl; rfl))) rfl (fun W hW => ⟨by rw [decide_eq_true hyes], hW.below⟩)

/-! ## Digits -/
structure Dg where
  n : Int
  lo : Int
  hi : Int
  bits : Nat
def dgE (d : Dg) : List Value := [.int .i64 d.n, .int .i64 d.lo, .int .i64 d.hi, .int .i64 d.bits]
def Dg.fit (d : Dg) : Bool := decide (d.lo ≤ d.n ∧ d.n ≤ d.hi)
def pv (ds : List Dg) : Int := ds.foldl (fun c d => c * 2 ^ d.bits + d.n) 0
def Fine (d : Dg) : Prop := 0 ≤ d.lo ∧ d.hi < 2 ^ d.bits ∧ d.bits ≤ 8
theorem pow_small {k : Nat} (h : k ≤ 8) : (1 : Int) ≤ 2 ^ k ∧ (2 : Int) ^ k ≤ 256 := by
  have h1 : ((2 ^ k : Nat) : Int) ≤ ((2 ^ 8 : Nat) : Int) := Int.ofNat_le.2 (Nat.pow_le_pow_right (by decide) h)
  have h2 : ((1 : Nat) : Int) ≤ ((2 ^ k : Nat) : Int) := Int.ofNat_le.2 (Nat.two_pow_pos k)
  rw [Int.natCast_pow] at h1 h2
  exact ⟨h2, h1⟩
theorem digit_bd {c n A B : Int} (h0 : 0 ≤ c) (h1 : c < A) (h2 : 0 ≤ n) (h3 : n < B) (hB : 1 ≤ B) : 0 ≤ c * B ∧ c * B + n < A * B := by
  have e1 := Int.mul_nonneg h0 (show 0 ≤ B by omega)
  have e2 := Int.mul_le_mul_of_nonneg_right (show c + 1 ≤ A by omega) (show 0 ≤ B by omega)
  rw [Int.add_mul, Int.one_mul] at e2
  omega
theorem pv_snoc (l : List Dg) (d : Dg) : pv (l ++ [d]) = pv l * 2 ^ d.bits + d.n := by unfold pv; rw [List.foldl_append]; rfl
theorem pow256 {a b : Nat} (h : a ≤ b) : (256 : Int) ^ a ≤ 256 ^ b := by
  have h1 : ((256 ^ a : Nat) : Int) ≤ ((256 ^ b : Nat) : Int) := Int.ofNat_le.2 (Nat.pow_le_pow_right (by decide) h)
  rw [Int.natCast_pow, Int.natCast_pow] at h1
  exact h1
theorem pvf_bd : ∀ (l : List Dg) (c : Int) (m : Nat), (∀ d ∈ l, Fine d) → l.all Dg.fit = true → 0 ≤ c → c < 256 ^ m → 0 ≤ l.foldl (fun c d => c * 2 ^ d.bits + d.n) c ∧ l.foldl (fun c d => c * 2 ^ d.bits + d.n) c < 256 ^ (m + l.length)
  | [], c, m, _, _, h0, h1 => ⟨h0, h1⟩
  | d :: l, c, m, hF, hf, h0, h1 => by
    rw [List.all_cons, Bool.and_eq_true] at hf
    obtain ⟨f1, f2, f3⟩ := hF d List.mem_cons_self
    have hfit : d.lo ≤ d.n ∧ d.n ≤ d.hi := of_decide_eq_true hf.1
    obtain ⟨p1, p2⟩ := pow_small f3
    obtain ⟨e1, e2⟩ := digit_bd h0 h1 (show 0 ≤ d.n by omega) (show d.n < 2 ^ d.bits by omega) p1
    have h3 : c * 2 ^ d.bits + d.n < 256 ^ (m + 1) := by
      rw [Int.pow_succ]
      exact Int.lt_of_lt_of_le e2 (Int.mul_le_mul_of_nonneg_left p2 (by omega))
    have h4 := pvf_bd l (c * 2 ^ d.bits + d.n) (m + 1) (fun e he => hF e (List.mem_cons_of_mem _ he)) hf.2 (by omega) h3
    rw [show m + 1 + l.length = m + (d :: l).length by simp only [List.length_cons]; omega] at h4
    exact h4
theorem pv_small {l : List Dg} (hF : ∀ d ∈ l, Fine d) (hf : l.all Dg.fit = true) (hl : l.length ≤ 6) : 0 ≤ pv l ∧ pv l < 281474976710656 := by
  obtain ⟨h1, h2⟩ := pvf_bd l 0 0 hF hf (by decide) (by decide)
  rw [Nat.zero_add] at h2
  have h3 := pow256 hl
  have h4 : (256 : Int) ^ 6 = 281474976710656 := by decide
  exact ⟨h1, by rw [← h4]; exact Int.lt_of_lt_of_le h2 h3⟩

set_option maxRecDepth 100000 in
set_option maxHeartbeats 4000000 in
theorem pack_calls (A : Option Addr) (cap : Nat) (ds : List Dg) (w : World) (hl : ds.length ≤ 7) (hF : ∀ d ∈ ds, Fine d) (hA : Kin.At w A 4 (ds.map dgE)) :
    Calls Try.prog 44 ⟨[.slice A ds.length cap]⟩ w fun e w' => e = .returned (.tuple ⟨[.int .i64 (if ds.all Dg.fit = true then pv ds else 0), .bool (ds.all Dg.fit)]⟩) ∧ Below w.heap.size w w' := by
  refine fun_enter Try.func44 rfl Try.ntmps44 rfl rfl (satW_nil w) ?_
  repeat (first | refine l_val rfl rfl (by first | exact pureEval_ok rfl ) ?_ | refine l_nil ?_ | refine c_region ?_ | refine c_seq ?_ | refine x_then ?_ | refine c_block ?_ )
  refine c_loop (ι := Nat) (fun k => k ≤ ds.length ∧ (Unit → (ds.take k).all Dg.fit = true)) (fun k => [(2, .int .i64 (pv (ds.take k))), (3, .bool false), (6, .slice A ds.length cap), (7, .int .i64 ds.length), (8, .int .i64 k)]) (fun _ => []) (fun k => ds.length - k) 0 ⟨by omega, fun _ => rfl⟩ (by repeat (first | exact EnvSub.nil | refine EnvSub.cons rfl (by first | rfl | (congr 1; done) | (exact congrArg (Value.int _) (by omega)) | (simp; done)) ?_)) (by repeat (first | exact MSub.nil | refine MSub.keep (by first | rfl | assumption) ?_ | refine MSub.drop ?_ | exact MSub.refl _)) ?_
  rintro k ⟨hk, hf⟩
  by_cases hlt : k < ds.length
  · obtain ⟨d, hd⟩ : ∃ d, ds[k]? = some d := ⟨_, List.getElem?_eq_getElem hlt⟩
    obtain ⟨b, o, rfl, hc⟩ := ext_at hA hd
    have he := ext_of hc
    unfold dgE at he
    obtain ⟨f1, f2, f3⟩ := hF d (List.mem_of_getElem? hd)
    obtain ⟨p1, p2⟩ := pow_small f3
    have ht : ds.take (k + 1) = ds.take k ++ [d] := by rw [List.take_add_one, hd]; rfl
    obtain ⟨c1, c2⟩ := pv_small (fun e he => hF e (List.mem_of_mem_take he)) (hf ()) (show (ds.take k).length ≤ 6 by rw [List.length_take]; omega)
    have hn : pv (ds.take (k + 1)) = pv (ds.take k) * 2 ^ d.bits + d.n := by rw [ht, pv_snoc]
    have hall : (ds.take (k + 1)).all Dg.fit = d.fit := by rw [ht, List.all_append, hf ()]; simp
    by_cases g1 : d.lo ≤ d.n
    · by_cases g2 : d.n ≤ d.hi
      · have hfit : d.fit = true := decide_eq_true ⟨g1, g2⟩
        obtain ⟨e1, e2⟩ := digit_bd c1 c2 (show 0 ≤ d.n by omega) (show d.n < 2 ^ d.bits by omega) p1
        have hA2 : (281474976710656 : Int) * 2 ^ d.bits ≤ 281474976710656 * 256 := Int.mul_le_mul_of_nonneg_left p2 (by omega)
        have s1 : IntKind.i64.wrap (pv (ds.take k) * 2 ^ d.bits) = pv (ds.take k) * 2 ^ d.bits := wrap_i64 (by omega) (by omega)
        have s2 : bits .or .i64 (pv (ds.take k) * 2 ^ d.bits) d.n = pv (ds.take (k + 1)) := by
          rw [hn]
          exact or_join _ _ _ c1 (by omega) (by omega) (by omega) (by omega)
        have hf' := fun (_ : Unit) => hall.trans hfit
        clear hall hn ht
        repeat (first | refine l_val rfl rfl (by first | exact v_add rfl rfl (by omega) (by omega) | exact pureEval_ok rfl | exact v_load rfl (by repeat (first | exact List.Mem.head _ | apply List.Mem.tail)) rfl (by rfl) | exact v_load_ext0 rfl (by assumption) rfl (by rfl) | exact v_index rfl rfl rfl rfl (by omega) (by omega) (by with_reducible first | exact idx4 _ _ _  ) ) ?_ | refine l_nil ?_ | refine c_region ?_ | refine c_seq ?_ | refine x_then ?_ | refine r_alloc rfl rfl rfl (by first | exact aggL ) (fun _ => ?_) | refine r_store rfl rfl rfl rfl rfl rfl rfl (by repeat (first | exact Upd.head | apply Upd.tail)) (by rfl) ?_ | refine c_dec_t rfl (by first | omega ) ?_ | refine c_dec_f rfl (by first | omega | exact fun h => h rfl ) ?_ | refine c_block ?_ | refine c_skip ?_ | refine x_block ?_ | refine l_dec_f rfl rfl rfl rfl rfl (by first | omega ) ?_ | refine c_reads rfl (by decide +kernel) ?_ | refine q_val rfl rfl (by first | exact pureEval_ok rfl | exact v_load rfl (by repeat (first | exact List.Mem.head _ | apply List.Mem.tail)) rfl (by rfl) ) ?_ | refine q_nil ?_ | (refine q_val rfl rfl (v_shlA rfl rfl (by omega) (by assumption)) ?_) | (refine q_val rfl rfl (v_orA rfl rfl (by assumption)) ?_) )
        exact x_back (k + 1) ⟨hlt, hf'⟩ (by omega) (by repeat (first | exact EnvSub.nil | refine EnvSub.cons rfl (by first | rfl | (congr 1; done) | (exact congrArg (Value.int _) (by omega)) | (simp; done)) ?_)) (by repeat (first | exact MSub.nil | refine MSub.keep (by first | rfl | assumption) ?_ | refine MSub.drop ?_ | exact MSub.refl _))
      · have hno : ds.all Dg.fit = false := by
          rw [List.all_eq_false]; exact ⟨d, List.mem_of_getElem? hd, by rw [show d.fit = false from decide_eq_false (fun h => g2 h.2)]; decide⟩
        clear hall hn ht
        repeat (first | refine l_val rfl rfl (by first | exact pureEval_ok rfl | exact v_load rfl (by repeat (first | exact List.Mem.head _ | apply List.Mem.tail)) rfl (by rfl) | exact v_load_ext0 rfl (by assumption) rfl (by rfl) | exact v_index rfl rfl rfl rfl (by omega) (by omega) (by with_reducible first | exact idx4 _ _ _  ) ) ?_ | refine l_nil ?_ | refine c_region ?_ | refine c_seq ?_ | refine x_then ?_ | refine r_alloc rfl rfl rfl (by first | exact aggL ) (fun _ => ?_) | refine r_store rfl rfl rfl rfl rfl rfl rfl (by repeat (first | exact Upd.head | apply Upd.tail)) (by rfl) ?_ | refine c_dec_t rfl (by first | omega ) ?_ | refine c_block ?_ | refine c_skip ?_ | refine c_ret ?_ | refine x_then_ret ?_ | refine x_block_ret ?_ | refine l_dec_f rfl rfl rfl rfl rfl (by first | omega ) ?_ )
        exact x_ret rfl rfl (by repeat (first | exact Res.nil | (apply Res.tmp; rfl) | (apply Res.cell; rfl; exact (by repeat (first | exact List.Mem.head _ | apply List.Mem.tail)); rfl; rfl))) rfl (fun W hW => ⟨by rw [hno]; rfl, hW.below⟩)
    · have hno : ds.all Dg.fit = false := by
        rw [List.all_eq_false]; exact ⟨d, List.mem_of_getElem? hd, by rw [show d.fit = false from decide_eq_false (fun h => g1 h.1)]; decide⟩
      clear hall hn ht
      repeat (first | refine l_val rfl rfl (by first | exact pureEval_ok rfl | exact v_load rfl (by repeat (first | exact List.Mem.head _ | apply List.Mem.tail)) rfl (by rfl) | exact v_load_ext0 rfl (by assumption) rfl (by rfl) | exact v_index rfl rfl rfl rfl (by omega) (by omega) (by with_reducible first | exact idx4 _ _ _  ) ) ?_ | refine l_nil ?_ | refine c_region ?_ | refine c_seq ?_ | refine x_then ?_ | refine l_skip rfl rfl ?_ | refine r_alloc rfl rfl rfl (by first | exact aggL ) (fun _ => ?_) | refine r_store rfl rfl rfl rfl rfl rfl rfl (by repeat (first | exact Upd.head | apply Upd.tail)) (by rfl) ?_ | refine c_true rfl ?_ | refine c_dec_t rfl (by first | omega ) ?_ | refine c_block ?_ | refine c_skip ?_ | refine c_ret ?_ | refine x_then_ret ?_ | refine x_block_ret ?_ | refine l_dec_t rfl rfl rfl rfl rfl (by first | omega ) ?_ )
      exact x_ret rfl rfl (by repeat (first | exact Res.nil | (apply Res.tmp; rfl) | (apply Res.cell; rfl; exact (by repeat (first | exact List.Mem.head _ | apply List.Mem.tail)); rfl; rfl))) rfl (fun W hW => ⟨by rw [hno]; rfl, hW.below⟩)
  · have hkl : k = ds.length := by omega
    subst hkl
    have hyes := hf ()
    rw [List.take_length] at hyes ⊢
    repeat (first | refine l_val rfl rfl (by first | exact pureEval_ok rfl ) ?_ | refine l_nil ?_ | refine c_region ?_ | refine c_seq ?_ | refine x_then ?_ | refine c_dec_f rfl (by first | omega ) ?_ | refine c_ret ?_ | refine c_exit ?_ | refine x_then_exit ?_ | refine x_block_same ?_ )
    exact x_ret rfl rfl (by repeat (first | exact Res.nil | (apply Res.tmp; rfl) | (apply Res.cell; rfl; exact (by repeat (first | exact List.Mem.head _ | apply List.Mem.tail)); rfl; rfl))) rfl (fun W hW => ⟨by rw [hyes]; rfl, hW.below⟩)
end R41
end Go.Proofs
