/- Clocks: small functions, the search for a bar's tempo, the ticks of a bar. -/
import Derived.Test.YtjagcijgfmclhaaTy
import Derived.Test.YtjagcijgfmclhaaEng18
import Derived.Test.YtjagcijgfmclhaaTmSum
set_option linter.unusedSectionVars false
set_option linter.unusedVariables false
set_option linter.unusedSimpArgs false
namespace Go.Proofs
open Go.RowKit Go.Kin Go.Kin.Tm
namespace R13
def tpE (t : Tp) : List Value := [.int .i64 t.bar, .int .i64 t.ticks, .int .i64 t.step]
def psE (p : Ps) : List Value := [.int .i64 p.bar, .int .i64 p.kind, .int .i64 p.lo, .int .i64 p.hi]
def spE (s : Sp) : List Value := [.int .i64 s.f, .int .i64 s.t, .int .i64 s.lo, .int .i64 s.hi]
/-- a clock as it lies in memory -/
structure Clk where
  n : Int
  ts : List Tp
  ps : List Ps
  sp : List Sp
  A : Option Addr
  B : Option Addr
  C : Option Addr
  ca : Nat
  cb : Nat
  cc : Nat
@[reducible] def Clk.v (c : Clk) : List Value := [.int .i64 c.n, .slice c.A c.ts.length c.ca, .slice c.B c.ps.length c.cb, .slice c.C c.sp.length c.cc]
/-- its slices lie in the world -/
structure Clk.In (c : Clk) (w : World) : Prop where
  a : Kin.At w c.A 3 (c.ts.map tpE)
  b : Kin.At w c.B 4 (c.ps.map psE)
  c : Kin.At w c.C 4 (c.sp.map spE)
theorem Clk.In.later {c : Clk} {w w' : World} (h : c.In w) (k : Later w w') : c.In w' := ⟨h.a.later k, h.b.later k, h.c.later k⟩
theorem Clk.In.sat {c : Clk} {w W : World} {mem : List (Nat × Obj)} {J : (Nat → Prop) → World → Prop} (h : c.In w) (hm : SatW w (base w) J mem W) : c.In W := h.later hm.below
theorem Clk.In.anyB {c : Clk} {w W : World} (h : c.In w) (hm : Below w.heap.size w W) : c.In W := h.later hm
theorem ext_own {W : World} {b : Nat} {cs : List Value} {T : TypeId} {fr : Nat × Nat} (h : W.heap[b]? = some (.cells ⟨cs⟩ T fr)) : Ext W (base W) b 0 cs := ⟨lt_of_heap h, fun i v hi => by
  unfold World.cell?; rw [h, Nat.zero_add]; simpa using hi⟩

theorem in_calls (n lo hi : Int) (w : World) : Calls Try.prog 27 ⟨[.int .i64 n, .int .i64 lo, .int .i64 hi]⟩ w fun e w' => e = .returned (.bool (decide (lo ≤ n ∧ n ≤ hi))) ∧ Below w.heap.size w w' := by
  refine fun_enter Try.func27 rfl Try.ntmps27 rfl rfl (satW_nil w) ?_
  repeat' (first | refine l_val rfl rfl (by first | exact pureEval_ok rfl ) ?_ | refine l_nil ?_ | refine c_region ?_ | refine c_seq ?_ | refine x_then ?_ | refine l_skip rfl rfl ?_ | refine c_ret ?_ | refine l_dec rfl rfl rfl rfl rfl (fun _ => ?_) (fun _ => ?_) )
  · refine x_ret rfl rfl (by repeat (first | exact Res.nil | (apply Res.tmp; rfl) | (apply Res.cell; rfl; exact (by repeat (first | exact List.Mem.head _ | apply List.Mem.tail)); rfl; rfl))) rfl (fun W hW => ⟨?_, hW.below⟩)
    simp_all <;> omega
  · refine x_ret rfl rfl (by repeat (first | exact Res.nil | (apply Res.tmp; rfl) | (apply Res.cell; rfl; exact (by repeat (first | exact List.Mem.head _ | apply List.Mem.tail)); rfl; rfl))) rfl (fun W hW => ⟨?_, hW.below⟩)
    simp_all <;> omega
theorem within_calls (n lo hi : Int) (w : World) : Calls Try.prog 29 ⟨[.int .i64 n, .int .i64 lo, .int .i64 hi]⟩ w fun e w' => e = .returned (.bool (decide (lo ≤ n ∧ n ≤ hi))) ∧ Below w.heap.size w w' := by
  refine fun_enter Try.func29 rfl Try.ntmps29 rfl rfl (satW_nil w) ?_
  repeat' (first | refine l_val rfl rfl (by first | exact pureEval_ok rfl ) ?_ | refine l_nil ?_ | refine c_region ?_ | refine c_seq ?_ | refine x_then ?_ | refine l_skip rfl rfl ?_ | refine c_ret ?_ | refine l_dec rfl rfl rfl rfl rfl (fun _ => ?_) (fun _ => ?_) )
  · refine x_ret rfl rfl (by repeat (first | exact Res.nil | (apply Res.tmp; rfl) | (apply Res.cell; rfl; exact (by repeat (first | exact List.Mem.head _ | apply List.Mem.tail)); rfl; rfl))) rfl (fun W hW => ⟨?_, hW.below⟩)
    simp_all <;> omega
  · refine x_ret rfl rfl (by repeat (first | exact Res.nil | (apply Res.tmp; rfl) | (apply Res.cell; rfl; exact (by repeat (first | exact List.Mem.head _ | apply List.Mem.tail)); rfl; rfl))) rfl (fun W hW => ⟨?_, hW.below⟩)
    simp_all <;> omega

theorem less_calls (c : Clk) (k : Int) (b1 b2 i : Nat) (x : Tp) (w : World) (h1 : w.heap[b1]? = some (.cells ⟨c.v⟩ 26 (0, 0))) (h2 : w.heap[b2]? = some (.cells ⟨[.int .i64 k]⟩ 3 (0, 0))) (hx : c.ts[i]? = some x) (hi : i ≤ 100000) (hA : Kin.At w c.A 3 (c.ts.map tpE)) :
    Calls Try.prog 49 ⟨[.int .i64 i, .pointer (some ⟨b1, 0, none⟩), .pointer (some ⟨b2, 0, none⟩)]⟩ w fun e w' => e = .returned (.bool (decide (k < x.bar))) ∧ Below w.heap.size w w' := by
  obtain ⟨n, ts, ps, sp, A, B, C, ca, cb, cc⟩ := c
  dsimp only [Clk.v] at *
  have g1 := ext_own h1
  have g2 := ext_own h2
  have hlt : i < ts.length := (List.getElem?_eq_some_iff.1 hx).1
  obtain ⟨b, o, rfl, hc⟩ := hA i (tpE x) (by simp [hx])
  have he := ext_of hc
  refine fun_enter Try.func49 rfl Try.ntmps49 rfl rfl (satW_nil w) ?_
  repeat (first | refine l_val rfl rfl (by first | exact pureEval_ok rfl ) ?_ | refine l_nil ?_ | refine c_region ?_ | refine c_seq ?_ | refine x_then ?_ | refine c_ret ?_ | refine c_reads rfl (by decide +kernel) ?_ | refine q_val rfl rfl (by first | exact pureEval_ok rfl | exact v_load_ext0 rfl (by assumption) rfl (by rfl) | exact v_load_ext rfl (by assumption) rfl (by rfl) | exact v_index rfl rfl rfl rfl (by omega) (by omega) (by with_reducible first | exact idx4 _ _ _  ) ) ?_ | refine q_nil ?_ )
  refine x_ret rfl rfl (by repeat (first | exact Res.nil | (apply Res.tmp; rfl) | (apply Res.cell; rfl; exact (by repeat (first | exact List.Mem.head _ | apply List.Mem.tail)); rfl; rfl))) rfl (fun W hW => ⟨rfl, hW.below⟩)

section
variable {P : Program} {N : Nat} {c : Cx} {env : List (Nat × Value)} {mem : List (Nat × Obj)} {ty : TypeId} {pos : String} {af : Array Edge} {g : Option (Nat × Bool)} {dd : Option Tmp}
theorem v_half {k' : IntKind} {t t' : TypeId} {x y : Operand} {m q : Nat} (hx : evOp env x = some (.int .u64 m)) (hy : evOp env y = some (.int k' 1)) (hq : m / 2 = q) : OpVal P N c env mem ⟨dd, .binOp .shr t x y t', ty, pos, af, g⟩ (.int .u64 (q : Int)) := by
  have h := v_ushr (P := P) (N := N) (c := c) (mem := mem) (dd := dd) (ty := ty) (pos := pos) (af := af) (g := g) (t := t) (t' := t') (n := 1) hx hy (by omega)
  rw [Nat.pow_one, hq] at h
  exact h
end

/-- the search for the least number of which a word holds -/
theorem search_calls (n r : Nat) (p : Nat → Bool) (fs cs : List Value) (gf : FuncId) [Ent Try.prog gf] (w : World) (hn : n ≤ 100000) (hr : r ≤ n) (h1 : ∀ i, i < r → p i = false) (h2 : ∀ i, r ≤ i → i < n → p i = true)
    (hf : ∀ i, i < n → ∀ W, Below w.heap.size w W → Calls Try.prog gf ⟨fs ++ [.int .i64 i] ++ cs⟩ W fun e W' => e = .returned (.bool (p i)) ∧ Below W.heap.size W W') :
    Calls Try.prog 48 ⟨[.int .i64 n, .func (.func gf) ⟨fs⟩ ⟨cs⟩]⟩ w fun e w' => e = .returned (.int .i64 r) ∧ Below w.heap.size w w' := by
  refine fun_enter Try.func48 rfl Try.ntmps48 rfl rfl (satW_nil w) ?_
  repeat (first | refine l_val rfl rfl (by first | exact pureEval_ok rfl ) ?_ | refine l_nil ?_ | refine c_region ?_ | refine c_seq ?_ | refine x_then ?_ | refine c_block ?_ )
  refine c_loop (ι := Nat × Nat) (fun q => q.1 ≤ r ∧ r ≤ q.2 ∧ q.2 ≤ n) (fun q => [(1, .func (.func gf) ⟨fs⟩ ⟨cs⟩), (5, .int .i64 q.1), (6, .int .i64 q.2)]) (fun _ => []) (fun q => q.2 - q.1) (0, n) ⟨by omega, by omega, by simp⟩ (by repeat (first | exact EnvSub.nil | refine EnvSub.cons rfl (by first | rfl | (congr 1; done) | (exact congrArg (Value.int _) (by omega)) | (simp; done)) ?_)) (by repeat (first | exact MSub.nil | refine MSub.keep (by first | rfl | assumption) ?_ | refine MSub.drop ?_ | exact MSub.refl _)) ?_
  rintro ⟨i, j⟩ ⟨q1, q2, q3⟩
  simp only at q1 q2 q3 ⊢
  by_cases hlt : i < j
  · have hm : (i + j) / 2 < j := by omega
    have hm2 : i ≤ (i + j) / 2 := by omega
    obtain ⟨m, hmm⟩ : ∃ m, (i + j) / 2 = m := ⟨_, rfl⟩
    have hsum : (i : Int) + (j : Int) = ((i + j : Nat) : Int) := by omega
    repeat (first | refine l_val rfl rfl (by first | exact v_add rfl rfl (by omega) (by omega) | exact v_uconv rfl rfl rfl (by omega) | exact pureEval_ok rfl ) ?_ | refine l_nil ?_ | refine c_region ?_ | refine c_seq ?_ | refine x_then ?_ | refine c_dec_t rfl (by first | omega ) ?_ | refine c_block ?_ | refine c_skip ?_ )
    refine l_val rfl rfl (v_half rfl rfl hmm) ?_
    repeat (first | refine l_val rfl rfl (by first | exact v_iconv rfl rfl rfl (by omega) (by omega) | exact pureEval_ok rfl ) ?_ | refine l_nil ?_ | refine c_region ?_ | refine c_seq ?_ | refine x_then ?_ )
    have hcall : ∀ W, SatW w (base w) noJ [] W → _ := fun W hW => hf m (by omega) W hW.below
    cases hp : p m with
    | true =>
      rw [hp] at hcall
      refine r_callv rfl rfl rfl rfl rfl hcall ?_
      repeat (first | refine l_val rfl rfl (by first | exact pureEval_ok rfl ) ?_ | refine l_nil ?_ | refine c_region ?_ | refine x_then ?_ | refine c_false rfl ?_ | refine x_block ?_ )
      have h3 : r ≤ m := Nat.le_of_not_lt fun h => by rw [h1 m h] at hp; cases hp
      exact x_back (i, m) ⟨q1, h3, by simp only; omega⟩ (by simp only; omega) (by repeat (first | exact EnvSub.nil | refine EnvSub.cons rfl (by first | rfl | (congr 1; done) | (exact congrArg (Value.int _) (by omega)) | (simp; done)) ?_)) (by repeat (first | exact MSub.nil | refine MSub.keep (by first | rfl | assumption) ?_ | refine MSub.drop ?_ | exact MSub.refl _))
    | false =>
      rw [hp] at hcall
      refine r_callv rfl rfl rfl rfl rfl hcall ?_
      repeat (first | refine l_val rfl rfl (by first | exact v_add rfl rfl (by omega) (by omega) | exact pureEval_ok rfl ) ?_ | refine l_nil ?_ | refine c_region ?_ | refine x_then ?_ | refine c_true rfl ?_ | refine x_block ?_ )
      have h3 : m < r := Nat.lt_of_not_le fun h => by rw [h2 m h (by omega)] at hp; cases hp
      exact x_back (m + 1, j) ⟨h3, q2, q3⟩ (by simp only; omega) (by repeat (first | exact EnvSub.nil | refine EnvSub.cons rfl (by first | rfl | (congr 1; done) | (exact congrArg (Value.int _) (by omega)) | (simp; done)) ?_)) (by repeat (first | exact MSub.nil | refine MSub.keep (by first | rfl | assumption) ?_ | refine MSub.drop ?_ | exact MSub.refl _))
  · have : i = r := by omega
    subst this
    repeat (first | refine l_val rfl rfl (by first | exact pureEval_ok rfl ) ?_ | refine l_nil ?_ | refine c_region ?_ | refine c_seq ?_ | refine x_then ?_ | refine c_dec_f rfl (by first | omega ) ?_ | refine c_ret ?_ | refine c_exit ?_ | refine x_then_exit ?_ | refine x_block_same ?_ )
    refine x_ret rfl rfl (by repeat (first | exact Res.nil | (apply Res.tmp; rfl) | (apply Res.cell; rfl; exact (by repeat (first | exact List.Mem.head _ | apply List.Mem.tail)); rfl; rfl))) rfl (fun W hW => ⟨rfl, hW.below⟩)

theorem head_of {ts : List Tp} (h : head0 ts = true) : ∃ t, ts[0]? = some t ∧ t.bar = 0 := by
  cases ts with
  | nil => cases h
  | cons t l => exact ⟨t, rfl, of_decide_eq_true h⟩
theorem small {x s : Int} (h1 : -5000 ≤ x) (h2 : x ≤ 5000) (h3 : -65536 ≤ s) (h4 : s ≤ 65536) : -330000000 ≤ x * s ∧ x * s ≤ 330000000 := by
  have h : (x * s).natAbs ≤ 5000 * 65536 := by rw [Int.natAbs_mul]; exact Nat.mul_le_mul (by omega) (by omega)
  omega

/-- the ticks of a bar -/
theorem ticks_calls (c : Clk) (k : Int) (w : World) (hl : c.ts.length ≤ 5000) (hn : c.n ≤ 4096) (h0 : head0 c.ts = true) (ha : asc (-1) c.n c.ts = true) (k1 : 0 ≤ k) (k2 : k ≤ 4096) (hA : c.In w) :
    Calls Try.prog 28 ⟨[.agg ⟨c.v⟩, .int .i64 k]⟩ w fun e w' => e = .returned (.int .i64 (tk c.ts k)) ∧ Below w.heap.size w w' := by
  obtain ⟨n, ts, ps, sp, A, B, C, ca, cb, cc⟩ := c
  dsimp only [Clk.v] at *
  obtain ⟨t0, g0, gz⟩ := head_of h0
  obtain ⟨i, t, e1, e2, e3, e4⟩ := at_bar (n := n) g0 gz k1
  have hA1 : Kin.At w A 3 (ts.map tpE) := hA.a
  have hi : i < ts.length := (List.getElem?_eq_some_iff.1 e2).1
  obtain ⟨b, o, rfl, hc⟩ := hA1 i (tpE t) (by simp [e2])
  have he := ext_of hc
  have ht := tk_of ha e2 e3 e4
  obtain ⟨q1, q2, q3, q4⟩ := asc_get ha e2
  have hs := small (x := k - t.bar) (s := t.step) (by omega) (by omega) q4.1 q4.2
  refine fun_enter Try.func28 rfl Try.ntmps28 rfl rfl (satW_nil w) ?_
  repeat ((fail_if_success refine c_probe (id := 1) ?_); (fail_if_success refine c_probe1 (id := 1) ?_); first | refine l_val rfl rfl (by first | exact pureEval_ok rfl ) ?_ | refine l_nil ?_ | refine c_region ?_ | refine c_seq ?_ | refine x_then ?_ | refine r_box rfl rfl rfl rfl (fun _ => ?_) )
  refine c_seq ?_
  rename_i b1 b2
  refine c_new 0 1 [(6, .cal (.int .i64 ((i + 1 : Nat) : Int))), (10, .new 0), (11, .sto 0 0 3)] [(6,[]),(10,[0]),(11,[0])] [] rfl (by decide +kernel) rfl ?_; repeat (first | refine e_val rfl rfl rfl rfl (by first | exact pureEval_ok rfl | exact v_load rfl (by repeat (first | exact List.Mem.head _ | apply List.Mem.tail)) rfl (by rfl) ) ?_ )
  refine e_call rfl rfl rfl rfl rfl (fun W hW => search_calls ts.length (i + 1) (fun j => decide (k < (ts.getD j default).bar)) [] [.pointer (some ⟨b1, 0, none⟩), .pointer (some ⟨b2, 0, none⟩)] 49 W (by omega) (by omega)
    (fun j hj => ?_) (fun j hj hj2 => ?_) (fun j hj W2 hW2 => ?_)) ?_
  · obtain ⟨u, hu⟩ : ∃ u, ts[j]? = some u := ⟨_, List.getElem?_eq_getElem (by omega)⟩
    rw [getD_of hu]
    by_cases hji : j = i
    · subst hji; rw [e2] at hu; cases hu; exact decide_eq_false (by omega)
    · have := asc_lt ha (show j < i by omega) hu e2
      exact decide_eq_false (by omega)
  · obtain ⟨u, hu⟩ : ∃ u, ts[j]? = some u := ⟨_, List.getElem?_eq_getElem (by omega)⟩
    rw [getD_of hu]
    by_cases hji : j = i + 1
    · subst hji; have := e4 u hu; exact decide_eq_true (by omega)
    · obtain ⟨v, hv⟩ : ∃ v, ts[i + 1]? = some v := ⟨_, List.getElem?_eq_getElem (by omega)⟩
      have h1 := e4 v hv
      have := asc_lt ha (show i + 1 < j by omega) hv hu
      exact decide_eq_true (by omega)
  · have hu : ts[j]? = some (ts.getD j default) := by rw [List.getD_eq_getElem?_getD, List.getElem?_eq_getElem hj]; rfl
    have m1 := (hW.own (b1, _) (by repeat (first | exact List.Mem.head _ | apply List.Mem.tail))).2
    have m2 := (hW.own (b2, _) (by repeat (first | exact List.Mem.head _ | apply List.Mem.tail))).2
    have l1 := hW.lt (p := (b1, _)) (by repeat (first | exact List.Mem.head _ | apply List.Mem.tail))
    have l2 := hW.lt (p := (b2, _)) (by repeat (first | exact List.Mem.head _ | apply List.Mem.tail))
    refine less_calls ⟨n, ts, ps, sp, some ⟨b, o, none⟩, B, C, ca, cb, cc⟩ k b1 b2 j _ W2 ((hW2.block _ l1).trans m1) ((hW2.block _ l2).trans m2) hu (by omega) ((hA1.sat hW).later hW2)
  · refine e_val rfl rfl rfl rfl (v_subQ (q := (i : Int)) rfl rfl (by omega) (by omega) (by omega)) ?_
    repeat (first | refine l_val rfl rfl (by first | exact v_add rfl rfl (by omega) (by omega) | exact v_sub rfl rfl (by omega) (by omega) | exact v_mul rfl rfl (by omega) (by omega) | exact pureEval_ok rfl | exact v_load rfl (by repeat (first | exact List.Mem.head _ | apply List.Mem.tail)) rfl (by rfl) ) ?_ | refine l_nil ?_ | refine c_region ?_ | refine c_seq ?_ | refine x_then ?_ | refine c_ret ?_ | refine e_val rfl rfl rfl rfl (by first | exact v_load_ext0 rfl (by assumption) rfl (by rfl) | exact v_index rfl rfl rfl rfl (by omega) (by omega) (by with_reducible first | exact idx4 _ _ _  ) ) ?_ | refine e_new rfl rfl rfl rfl (by first | exact n_alloc rfl (by first | exact aggL ) ) (fun _ => ?_) | refine e_store rfl rfl rfl rfl rfl rfl rfl rfl (by first | rfl ) rfl rfl (by first | (simp; done) ) (by first | exact splice_lit (by rfl) ) ?_ | refine e_nil rfl ?_ )
    refine x_ret rfl rfl (by repeat (first | exact Res.nil | (apply Res.tmp; rfl) | (apply Res.cell; rfl; exact (by repeat (first | exact List.Mem.head _ | apply List.Mem.tail)); rfl; rfl))) rfl (fun W hW => ⟨?_, hW.below⟩)
    rw [ht]
end R13
end Go.Proofs
