/- Clocks: small functions, the search for a bar's tempo, the ticks of a bar. -/
import Derived.Test.YtnmbglemgkopaaaTy
import Derived.Test.YtnmbglemgkopaaaEng31
import Derived.Test.YtnmbglemgkopaaaTmSum
set_option linter.unusedSectionVars false
set_option linter.unusedVariables false
set_option linter.unusedSimpArgs false
namespace Go.Proofs
open Go.RowKit Go.Kin Go.Kin.Tm
namespace R13
set_option maxHeartbeats 4000000
def tpE (t : Tp) : List Value := [.int .i64 t.bar, .int .i64 t.ticks, .int .i64 t.step]
def psE (p : Ps) : List Value := [.int .i64 p.bar, .int .i64 p.kind, .int .i64 p.lo, .int .i64 p.hi]
def spE (s : Sp) : List Value := [.int .i64 s.f, .int .i64 s.t, .int .i64 s.lo, .int .i64 s.hi]
/-- a clock as it lies in memory -/
structure Clk where
  n : Int
  ts : List Tp
  ps : List Ps
  sp : List Sp
  A : Option Addr
  B : Option Addr
  C : Option Addr
  ca : Nat
  cb : Nat
  cc : Nat
@[reducible] def Clk.v (c : Clk) : List Value := [.int .i64 c.n, .slice c.A c.ts.length c.ca, .slice c.B c.ps.length c.cb, .slice c.C c.sp.length c.cc]
/-- its slices lie in the world -/
structure Clk.In (c : Clk) (w : World) : Prop where
  a : Kin.At w c.A 3 (c.ts.map tpE)
  b : Kin.At w c.B 4 (c.ps.map psE)
  c : Kin.At w c.C 4 (c.sp.map spE)
theorem Clk.In.later {c : Clk} {w w' : World} (h : c.In w) (k : Later w w') : c.In w' := ⟨h.a.later k, h.b.later k, h.c.later k⟩
theorem Clk.In.sat {c : Clk} {w W : World} {mem : List (Nat × Obj)} {J : (Nat → Prop) → World → Prop} (h : c.In w) (hm : SatW w (base w) J mem W) : c.In W := h.later hm.below
theorem Clk.In.anyB {c : Clk} {w W : World} (h : c.In w) (hm : Below w.heap.size w W) : c.In W := h.later hm
theorem ext_own {W : World} {b : Nat} {cs : List Value} {T : TypeId} {fr : Nat × Nat} (h : W.heap[b]? = some (.cells ⟨cs⟩ T fr)) : Ext W (base W) b 0 cs := ⟨lt_of_heap h, fun i v hi => by
  unfold World.cell?; rw [h, Nat.zero_add]; simpa using hi⟩

theorem in_calls (n lo hi : Int) (w : World) : Calls Try.prog 59 ⟨[.int .i64 n, .int .i64 lo, .int .i64 hi]⟩ w fun e w' => e = .returned (.bool (decide (lo ≤ n ∧ n ≤ hi))) ∧ Below w.heap.size w w' := by
  refine fun_enter Try.func59 rfl Try.ntmps59 rfl rfl (satW_nil w) ?_
  repeat' (first | refine l_val rfl rfl (by first | exact pureEval_ok rfl  | fail) ?_ | refine l_nil ?_ | refine c_region ?_ | refine c_seq ?_ | refine x_then ?_ | refine l_skip rfl rfl ?_ | refine c_ret ?_ | refine l_dec rfl rfl rfl rfl rfl (fun _ => ?_) (fun _ => ?_)  | fail)
  · refine x_ret rfl rfl (by repeat (first | exact Res.nil | (apply Res.tmp; rfl) | (apply Res.cell; rfl; exact (by repeat (first | exact List.Mem.head _ | apply List.Mem.tail)); rfl; rfl))) rfl (fun W hW => ⟨?_, hW.below⟩)
    simp_all <;> omega
  · refine x_ret rfl rfl (by repeat (first | exact Res.nil | (apply Res.tmp; rfl) | (apply Res.cell; rfl; exact (by repeat (first | exact List.Mem.head _ | apply List.Mem.tail)); rfl; rfl))) rfl (fun W hW => ⟨?_, hW.below⟩)
    simp_all <;> omega
theorem within_calls (n lo hi : Int) (w : World) : Calls Try.prog 63 ⟨[.int .i64 n, .int .i64 lo, .int .i64 hi]⟩ w fun e w' => e = .returned (.bool (decide (lo ≤ n ∧ n ≤ hi))) ∧ Below w.heap.size w w' := by
  refine fun_enter Try.func63 rfl Try.ntmps63 rfl rfl (satW_nil w) ?_
  repeat' (first | refine l_val rfl rfl (by first | exact pureEval_ok rfl  | fail) ?_ | refine l_nil ?_ | refine c_region ?_ | refine c_seq ?_ | refine x_then ?_ | refine l_skip rfl rfl ?_ | refine c_ret ?_ | refine l_dec rfl rfl rfl rfl rfl (fun _ => ?_) (fun _ => ?_)  | fail)
  · refine x_ret rfl rfl (by repeat (first | exact Res.nil | (apply Res.tmp; rfl) | (apply Res.cell; rfl; exact (by repeat (first | exact List.Mem.head _ | apply List.Mem.tail)); rfl; rfl))) rfl (fun W hW => ⟨?_, hW.below⟩)
    simp_all <;> omega
  · refine x_ret rfl rfl (by repeat (first | exact Res.nil | (apply Res.tmp; rfl) | (apply Res.cell; rfl; exact (by repeat (first | exact List.Mem.head _ | apply List.Mem.tail)); rfl; rfl))) rfl (fun W hW => ⟨?_, hW.below⟩)
    simp_all <;> omega

theorem less_calls (c : Clk) (k : Int) (b1 b2 i : Nat) (x : Tp) (w : World) (h1 : w.heap[b1]? = some (.cells ⟨c.v⟩ 28 (0, 0))) (h2 : w.heap[b2]? = some (.cells ⟨[.int .i64 k]⟩ 3 (0, 0))) (hx : c.ts[i]? = some x) (hi : i ≤ 100000) (hA : Kin.At w c.A 3 (c.ts.map tpE)) :
    Calls Try.prog 81 ⟨[.int .i64 i, .pointer (some ⟨b1, 0, none⟩), .pointer (some ⟨b2, 0, none⟩)]⟩ w fun e w' => e = .returned (.bool (decide (k < x.bar))) ∧ Below w.heap.size w w' := by
  obtain ⟨n, ts, ps, sp, A, B, C, ca, cb, cc⟩ := c
  dsimp only [Clk.v] at *
  have g1 := ext_own h1
  have g2 := ext_own h2
  have hlt : i < ts.length := (List.getElem?_eq_some_iff.1 hx).1
  obtain ⟨b, o, rfl, hc⟩ := hA i (tpE x) (by simp [hx])
  have he := ext_of hc
  refine fun_enter Try.func81 rfl Try.ntmps81 rfl rfl (satW_nil w) ?_
  repeat (first | refine l_val rfl rfl (by first | exact pureEval_ok rfl  | fail) ?_ | refine l_nil ?_ | refine c_region ?_ | refine c_seq ?_ | refine x_then ?_ | refine c_ret ?_ | refine c_reads rfl (by decide +kernel) ?_ | refine q_val rfl rfl (by first | exact pureEval_ok rfl | exact v_load_ext0 rfl (by assumption) rfl (by rfl) | exact v_load_ext rfl (by assumption) rfl (by rfl) | exact v_index rfl rfl rfl rfl (by omega) (by omega) (by with_reducible first | exact idx4 _ _ _   | fail)  | fail) ?_ | refine q_nil ?_  | fail)
  refine x_ret rfl rfl (by repeat (first | exact Res.nil | (apply Res.tmp; rfl) | (apply Res.cell; rfl; exact (by repeat (first | exact List.Mem.head _ | apply List.Mem.tail)); rfl; rfl))) rfl (fun W hW => ⟨rfl, hW.below⟩)

section
variable {P : Program} {N : Nat} {c : Cx} {env : List (Nat × Value)} {mem : List (Nat × Obj)} {ty : TypeId} {pos : String} {af : Array Edge} {g : Option (Nat × Bool)} {dd : Option Tmp}
theorem v_half {k' : IntKind} {t t' : TypeId} {x y : Operand} {m q : Nat} (hx : evOp env x = some (.int .u64 m)) (hy : evOp env y = some (.int k' 1)) (hq : m / 2 = q) : OpVal P N c env mem ⟨dd, .binOp .shr t x y t', ty, pos, af, g⟩ (.int .u64 (q : Int)) := by
  have h := v_ushr (P := P) (N := N) (c := c) (mem := mem) (dd := dd) (ty := ty) (pos := pos) (af := af) (g := g) (t := t) (t' := t') (n := 1) hx hy (by omega)
  rw [Nat.pow_one, hq] at h
  exact h
end

/-- the search for the least number of which a word holds -/
theorem search_calls (n r : Nat) (p : Nat → Bool) (fs cs : List Value) (gf : FuncId) [Ent Try.prog gf] (w : World) (hn : n ≤ 100000) (hr : r ≤ n) (h1 : ∀ i, i < r → p i = false) (h2 : ∀ i, r ≤ i → i < n → p i = true)
    (hf : ∀ i, i < n → ∀ W, Below w.heap.size w W → Calls Try.prog gf ⟨fs ++ [.int .i64 i] ++ cs⟩ W fun e W' => e = .returned (.bool (p i)) ∧ Below W.heap.size W W') :
    Calls Try.prog 80 ⟨[.int .i64 n, .func (.func gf) ⟨fs⟩ ⟨cs⟩]⟩ w fun e w' => e = .returned (.int .i64 r) ∧ Below w.heap.size w w' := by
  refine fun_enter Try.func80 rfl Try.ntmps80 rfl rfl (satW_nil w) ?_
  repeat (first | refine l_val rfl rfl (by first | exact pureEval_ok rfl  | fail) ?_ | refine l_nil ?_ | refine c_region ?_ | refine c_seq ?_ | refine x_then ?_ | refine c_block ?_  | fail)
  refine c_loop (ι := Nat × Nat) (fun q => q.1 ≤ r ∧ r ≤ q.2 ∧ q.2 ≤ n) (fun q => [(1, .func (.func gf) ⟨fs⟩ ⟨cs⟩), (5, .int .i64 q.1), (6, .int .i64 q.2)]) (fun _ => []) (fun q => q.2 - q.1) (0, n) ⟨by omega, by omega, by simp⟩ (by repeat (first | exact EnvSub.nil | refine EnvSub.cons rfl (by first | rfl | (congr 1; done) | (exact congrArg (Value.int _) (by omega)) | (simp; done)) ?_)) (by repeat (first | exact MSub.nil | refine MSub.keep (by first | rfl | assumption) ?_ | refine MSub.drop ?_ | exact MSub.refl _)) ?_
  rintro ⟨i, j⟩ ⟨q1, q2, q3⟩
  simp only at q1 q2 q3 ⊢
  by_cases hlt : i < j
  · have hm : (i + j) / 2 < j := by omega
    have hm2 : i ≤ (i + j) / 2 := by omega
    obtain ⟨m, hmm⟩ : ∃ m, (i + j) / 2 = m := ⟨_, rfl⟩
    have hsum : (i : Int) + (j : Int) = ((i + j : Nat) : Int) := by omega
    repeat (first | refine l_val rfl rfl (by first | exact v_add rfl rfl (by omega) (by omega) | exact v_uconv rfl rfl rfl (by omega) | exact pureEval_ok rfl  | fail) ?_ | refine l_nil ?_ | refine c_region ?_ | refine c_seq ?_ | refine x_then ?_ | refine c_dec_t rfl (by first | omega  | fail) ?_ | refine c_block ?_ | refine c_skip ?_  | fail)
    refine l_val rfl rfl (v_half rfl rfl hmm) ?_
    repeat (first | refine l_val rfl rfl (by first | exact v_iconv rfl rfl rfl (by omega) (by omega) | exact pureEval_ok rfl  | fail) ?_ | refine l_nil ?_ | refine c_region ?_ | refine c_seq ?_ | refine x_then ?_  | fail)
    have hcall : ∀ W, SatW w (base w) noJ [] W → _ := fun W hW => hf m (by omega) W hW.below
    cases hp : p m with
    | true =>
      rw [hp] at hcall
      refine r_callv rfl rfl rfl rfl rfl hcall ?_
      repeat (first | refine l_val rfl rfl (by first | exact pureEval_ok rfl  | fail) ?_ | refine l_nil ?_ | refine c_region ?_ | refine x_then ?_ | refine c_false rfl ?_ | refine x_block ?_  | fail)
      have h3 : r ≤ m := Nat.le_of_not_lt fun h => by rw [h1 m h] at hp; cases hp
      exact x_back (i, m) ⟨q1, h3, by simp only; omega⟩ (by simp only; omega) (by repeat (first | exact EnvSub.nil | refine EnvSub.cons rfl (by first | rfl | (congr 1; done) | (exact congrArg (Value.int _) (by omega)) | (simp; done)) ?_)) (by repeat (first | exact MSub.nil | refine MSub.keep (by first | rfl | assumption) ?_ | refine MSub.drop ?_ | exact MSub.refl _))
    | false =>
      rw [hp] at hcall
      refine r_callv rfl rfl rfl rfl rfl hcall ?_
      repeat (first | refine l_val rfl rfl (by first | exact v_add rfl rfl (by omega) (by omega) | exact pureEval_ok rfl  | fail) ?_ | refine l_nil ?_ | refine c_region ?_ | refine x_then ?_ | refine c_true rfl ?_ | refine x_block ?_  | fail)
      have h3 : m < r := Nat.lt_of_not_le fun h => by rw [h2 m h (by omega)] at hp; cases hp
      exact x_back (m + 1, j) ⟨h3, q2, q3⟩ (by simp only; omega) (by repeat (first | exact EnvSub.nil | refine EnvSub.cons rfl (by first | rfl | (congr 1; done) | (exact congrArg (Value.int _) (by omega)) | (simp; done)) ?_)) (by repeat (first | exact MSub.nil | refine MSub.keep (by first | rfl | assumption) ?_ | refine MSub.drop ?_ | exact MSub.refl _))
  · have : i = r := by omega
    subst this
    repeat (first | refine l_val rfl rfl (by first | exact pureEval_ok rfl  | fail) ?_ | refine l_nil ?_ | refine c_region ?_ | refine c_seq ?_ | refine x_then ?_ | refine c_dec_f rfl (by first | omega  | fail) ?_ | refine c_ret ?_ | refine c_exit ?_ | refine x_then_exit ?_ | refine x_block_same ?_  | fail)
    refine x_ret rfl rfl (by repeat (first | exact Res.nil | (apply Res.tmp; rfl) | (apply Res.cell; rfl; exact (by repeat (first | exact List.Mem.head _ | apply List.Mem.tail)); rfl; rfl))) rfl (fun W hW => ⟨rfl, hW.below⟩)

theorem head_of {ts : List Tp} (h : head0 ts = true) : ∃ t, ts[0]? = some t ∧ t.bar = 0 := by
  cases ts with
  | nil => cases h
  | cons t l => exact ⟨t, rfl, of_decide_eq_true h⟩
theorem small {x s : Int} (h1 : -5000 ≤ x) (h2 : x ≤ 5000) (h3 : -65536 ≤ s) (h4 : s ≤ 65536) : -330000000 ≤ x * s ∧ x * s ≤ 330000000 := by
  have h : (x * s).natAbs ≤ 5000 * 65536 := by rw [Int.natAbs_mul]; exact Nat.mul_le_mul (by omega) (by omega)
  omega

/-- the ticks of a bar -/
theorem ticks_calls (c : Clk) (k : Int) (w : World) (hl : c.ts.length ≤ 5000) (hn : c.n ≤ 4096) (h0 : head0 c.ts = true) (ha : asc (-1) c.n c.ts = true) (k1 : 0 ≤ k) (k2 : k ≤ 4096) (hA : c.In w) :
    Calls Try.prog 60 ⟨[.agg ⟨c.v⟩, .int .i64 k]⟩ w fun e w' => e = .returned (.int .i64 (tk c.ts k)) ∧ Below w.heap.size w w' := by
  obtain ⟨n, ts, ps, sp, A, B, C, ca, cb, cc⟩ := c
  dsimp only [Clk.v] at *
  obtain ⟨t0, g0, gz⟩ := head_of h0
  obtain ⟨i, t, e1, e2, e3, e4⟩ := at_bar (n := n) g0 gz k1
  have hA1 : Kin.At w A 3 (ts.map tpE) := hA.a
  have hi : i < ts.length := (List.getElem?_eq_some_iff.1 e2).1
  obtain ⟨b, o, rfl, hc⟩ := hA1 i (tpE t) (by simp [e2])
  have he := ext_of hc
  have ht := tk_of ha e2 e3 e4
  obtain ⟨q1, q2, q3, q4⟩ := asc_get ha e2
  have hs := small (x := k - t.bar) (s := t.step) (by omega) (by omega) q4.1 q4.2
  refine fun_enter Try.func60 rfl Try.ntmps60 rfl rfl (satW_nil w) ?_
  repeat ((fail_if_success refine c_probe (id := 1) ?_); (fail_if_success refine c_probe1 (id := 1) ?_); first | refine l_val rfl rfl (by first | exact pureEval_ok rfl  | fail) ?_ | refine l_nil ?_ | refine c_region ?_ | refine c_seq ?_ | refine x_then ?_ | refine r_box rfl rfl rfl rfl (fun _ => ?_)  | fail)
  refine c_seq ?_
  rename_i b1 b2
  refine c_new 0 1 [(6, .cal (.int .i64 ((i + 1 : Nat) : Int))), (10, .new 0), (11, .sto 0 0 3)] [(6,[]),(10,[0]),(11,[0])] [] rfl (by decide +kernel) rfl ?_; repeat (first | refine e_val rfl rfl rfl rfl (by first | exact pureEval_ok rfl | exact v_load rfl (by repeat (first | exact List.Mem.head _ | apply List.Mem.tail)) rfl (by rfl)  | fail) ?_  | fail)
  refine e_call rfl rfl rfl rfl rfl (fun W hW => search_calls ts.length (i + 1) (fun j => decide (k < (ts.getD j default).bar)) [] [.pointer (some ⟨b1, 0, none⟩), .pointer (some ⟨b2, 0, none⟩)] 81 W (by omega) (by omega)
    (fun j hj => ?_) (fun j hj hj2 => ?_) (fun j hj W2 hW2 => ?_)) ?_
  · obtain ⟨u, hu⟩ : ∃ u, ts[j]? = some u := ⟨_, List.getElem?_eq_getElem (by omega)⟩
    rw [getD_of hu]
    by_cases hji : j = i
    · subst hji; rw [e2] at hu; cases hu; exact decide_eq_false (by omega)
    · have := asc_lt ha (show j < i by omega) hu e2
      exact decide_eq_false (by omega)
  · obtain ⟨u, hu⟩ : ∃ u, ts[j]? = some u := ⟨_, List.getElem?_eq_getElem (by omega)⟩
    rw [getD_of hu]
    by_cases hji : j = i + 1
    · subst hji; have := e4 u hu; exact decide_eq_true (by omega)
    · obtain ⟨v, hv⟩ : ∃ v, ts[i + 1]? = some v := ⟨_, List.getElem?_eq_getElem (by omega)⟩
      have h1 := e4 v hv
      have := asc_lt ha (show i + 1 < j by omega) hv hu
      exact decide_eq_true (by omega)
  · have hu : ts[j]? = some (ts.getD j default) := by rw [List.getD_eq_getElem?_getD, List.getElem?_eq_getElem hj]; rfl
    have m1 := (hW.own (b1, _) (by repeat (first | exact List.Mem.head _ | apply List.Mem.tail))).2
    have m2 := (hW.own (b2, _) (by repeat (first | exact List.Mem.head _ | apply List.Mem.tail))).2
    have l1 := hW.lt (p := (b1, _)) (by repeat (first | exact List.Mem.head _ | apply List.Mem.tail))
    have l2 := hW.lt (p := (b2, _)) (by repeat (first | exact List.Mem.head _ | apply List.Mem.tail))
    refine less_calls ⟨n, ts, ps, sp, some ⟨b, o, none⟩, B, C, ca, cb, cc⟩ k b1 b2 j _ W2 ((hW2.block _ l1).trans m1) ((hW2.block _ l2).trans m2) hu (by omega) ((hA1.sat hW).later hW2)
  · refine e_val rfl rfl rfl rfl (v_subQ (q := (i : Int)) rfl rfl (by omega) (by omega) (by omega)) ?_
    repeat (first | refine l_val rfl rfl (by first | exact v_add rfl rfl (by omega) (by omega) | exact v_sub rfl rfl (by omega) (by omega) | exact v_mul rfl rfl (by omega) (by omega) | exact pureEval_ok rfl | exact v_load rfl (by repeat (first | exact List.Mem.head _ | apply List.Mem.tail)) rfl (by rfl)  | fail) ?_ | refine l_nil ?_ | refine c_region ?_ | refine c_seq ?_ | refine x_then ?_ | refine c_ret ?_ | refine e_val rfl rfl rfl rfl (by first | exact v_load_ext0 rfl (by assumption) rfl (by rfl) | exact v_index rfl rfl rfl rfl (by omega) (by omega) (by with_reducible first | exact idx4 _ _ _   | fail)  | fail) ?_ | refine e_new rfl rfl rfl rfl (by first | exact n_alloc rfl (by first | exact aggL  | fail)  | fail) (fun _ => ?_) | refine e_store rfl rfl rfl rfl rfl rfl rfl rfl (by first | rfl  | fail) rfl rfl (by first | (simp; done)  | fail) (by first | exact splice_lit (by rfl)  | fail) ?_ | refine e_nil rfl ?_  | fail)
    refine x_ret rfl rfl (by repeat (first | exact Res.nil | (apply Res.tmp; rfl) | (apply Res.cell; rfl; exact (by repeat (first | exact List.Mem.head _ | apply List.Mem.tail)); rfl; rfl))) rfl (fun W hW => ⟨?_, hW.below⟩)
    rw [ht]
end R13
end Go.Proofs

set_option linter.unusedSectionVars false
set_option linter.unusedVariables false
set_option linter.unusedSimpArgs false
namespace Go.Proofs
open Go.RowKit Go.Kin Go.Kin.Tm
namespace R13
set_option maxHeartbeats 4000000
theorem ext_at {w : World} {A : Option Addr} {sz : Nat} {α : Type} {f : α → List Value} {l : List α} (hA : Kin.At w A sz (l.map f)) {i : Nat} {x : α} (hx : l[i]? = some x) : ∃ b o, A = some ⟨b, o, none⟩ ∧ ∀ j v, (f x)[j]? = some v → w.cell? ⟨b, o + i * sz + j, none⟩ = some v :=
  hA i (f x) (by simp [hx])

theorem rticks_calls (c : Clk) (k : Int) (w : World) (hl : c.ts.length ≤ 5000) (hn : c.n ≤ 4096) (h0 : head0 c.ts = true) (ha : asc (-1) c.n c.ts = true) (k1 : 0 ≤ k) (k2 : k ≤ 4096) (hA : c.In w) :
    Calls Try.prog 67 ⟨[.agg ⟨c.v⟩, .int .i64 k]⟩ w fun e w' => e = .returned (.int .i64 (tk c.ts k)) ∧ Below w.heap.size w w' := by
  obtain ⟨n, ts, ps, sp, A, B, C, ca, cb, cc⟩ := c
  dsimp only [Clk.v] at *
  obtain ⟨t0, g0, gz⟩ := head_of h0
  obtain ⟨i, t, e1, e2, e3, e4⟩ := at_bar (n := n) g0 gz k1
  have hA1 : Kin.At w A 3 (ts.map tpE) := hA.a
  clear hA
  have hi : i < ts.length := (List.getElem?_eq_some_iff.1 e2).1
  obtain ⟨b, o, rfl, hc⟩ := ext_at hA1 e2
  have he := ext_of hc
  have ht := tk_of ha e2 e3 e4
  obtain ⟨q1, q2, q3, q4⟩ := asc_get ha e2
  have hs := small (x := k - t.bar) (s := t.step) (by omega) (by omega) q4.1 q4.2
  refine fun_enter Try.func67 rfl Try.ntmps67 rfl rfl (satW_nil w) ?_
  repeat (first | refine l_val rfl rfl (by first | exact pureEval_ok rfl  | fail) ?_ | refine l_nil ?_ | refine c_region ?_ | refine c_seq ?_ | refine x_then ?_ | refine r_box rfl rfl rfl rfl (fun _ => ?_) | refine c_block ?_  | fail)
  rename_i b1
  refine c_loop (ι := Nat) (fun j => j ≤ i) (fun j => [(1, .int .i64 k), (2, .pointer (some ⟨b1, 0, none⟩)), (4, .int .i64 0), (5, .int .i64 j)]) (fun _ => [(b1, .cells ⟨[.int .i64 n, .slice (some ⟨b, o, none⟩) ts.length ca, .slice B ps.length cb, .slice C sp.length cc]⟩ 28 (0, 0))]) (fun j => i - j) 0 (by omega) (by repeat (first | exact EnvSub.nil | refine EnvSub.cons rfl (by first | rfl | (congr 1; done) | (exact congrArg (Value.int _) (by omega)) | (simp; done)) ?_)) (by repeat (first | exact MSub.nil | refine MSub.keep (by first | rfl | assumption) ?_ | refine MSub.drop ?_ | exact MSub.refl _)) ?_
  intro j hj
  by_cases hji : j < i
  · obtain ⟨u, hu⟩ : ∃ u, ts[j + 1]? = some u := ⟨_, List.getElem?_eq_getElem (by omega)⟩
    obtain ⟨b', o', h', hc'⟩ := ext_at hA1 hu
    cases h'
    have hx : Ext w (base w) b (o + ((j : Int) + 1).toNat * 3) (tpE u) := by rw [show ((j : Int) + 1).toNat = j + 1 by omega]; exact ext_of hc'
    have hub : u.bar ≤ k := by
      by_cases h : j + 1 = i
      · rw [h, e2] at hu; cases hu; exact e3
      · have := asc_lt ha (show j + 1 < i by omega) hu e2
        omega
    unfold tpE at hx
    clear he hc hc'
    repeat (first | refine l_val rfl rfl (by first | exact v_add rfl rfl (by omega) (by omega) | exact pureEval_ok rfl | exact v_load rfl (by repeat (first | exact List.Mem.head _ | apply List.Mem.tail)) rfl (by rfl) | exact v_load_ext0 rfl (by assumption) rfl (by rfl) | exact v_index rfl rfl rfl rfl (by omega) (by omega) (by with_reducible first | exact idx8 _ _ _   | fail)  | fail) ?_ | refine l_nil ?_ | refine c_region ?_ | refine c_seq ?_ | refine x_then ?_ | refine c_dec_t rfl (by first | omega  | fail) ?_ | refine c_block ?_ | refine c_skip ?_ | refine x_block ?_ | refine l_dec_t rfl rfl rfl rfl rfl (by first | omega  | fail) ?_  | fail)
    exact x_back (j + 1) (by omega) (by omega) (by repeat (first | exact EnvSub.nil | refine EnvSub.cons rfl (by first | rfl | (congr 1; done) | (exact congrArg (Value.int _) (by omega)) | (simp; done)) ?_)) (by repeat (first | exact MSub.nil | refine MSub.keep (by first | rfl | assumption) ?_ | refine MSub.drop ?_ | exact MSub.refl _))
  · have : j = i := by omega
    subst this
    by_cases hlt : j + 1 < ts.length
    · obtain ⟨u, hu⟩ : ∃ u, ts[j + 1]? = some u := ⟨_, List.getElem?_eq_getElem (by omega)⟩
      obtain ⟨b', o', h', hc'⟩ := ext_at hA1 hu
      cases h'
      have hx : Ext w (base w) b (o + ((j : Int) + 1).toNat * 3) (tpE u) := by rw [show ((j : Int) + 1).toNat = j + 1 by omega]; exact ext_of hc'
      have hub := e4 u hu
      unfold tpE at hx
      repeat (first | refine l_val rfl rfl (by first | exact v_add rfl rfl (by omega) (by omega) | exact v_sub rfl rfl (by omega) (by omega) | exact v_mul rfl rfl (by omega) (by omega) | exact pureEval_ok rfl | exact v_load rfl (by repeat (first | exact List.Mem.head _ | apply List.Mem.tail)) rfl (by rfl) | exact v_load_ext0 rfl (by assumption) rfl (by rfl) | exact v_index rfl rfl rfl rfl (by omega) (by omega) (by with_reducible first | exact idx4 _ _ _  | exact idx8 _ _ _   | fail)  | fail) ?_ | refine l_nil ?_ | refine c_region ?_ | refine c_seq ?_ | refine x_then ?_ | refine r_alloc rfl rfl rfl (by first | exact aggL  | fail) (fun _ => ?_) | refine r_store rfl rfl rfl rfl rfl rfl rfl (by repeat (first | exact Upd.head | apply Upd.tail)) (by rfl) ?_ | refine c_dec_f rfl (by first | omega  | fail) ?_ | refine c_ret ?_ | refine c_exit ?_ | refine x_then_exit ?_ | refine x_block_same ?_ | refine l_dec_t rfl rfl rfl rfl rfl (by first | omega  | fail) ?_  | fail)
      refine x_ret rfl rfl (by repeat (first | exact Res.nil | (apply Res.tmp; rfl) | (apply Res.cell; rfl; exact (by repeat (first | exact List.Mem.head _ | apply List.Mem.tail)); rfl; rfl))) rfl (fun W hW => ⟨?_, hW.below⟩)
      rw [ht]
    · repeat (first | refine l_val rfl rfl (by first | exact v_add rfl rfl (by omega) (by omega) | exact v_sub rfl rfl (by omega) (by omega) | exact v_mul rfl rfl (by omega) (by omega) | exact pureEval_ok rfl | exact v_load rfl (by repeat (first | exact List.Mem.head _ | apply List.Mem.tail)) rfl (by rfl) | exact v_load_ext0 rfl (by assumption) rfl (by rfl) | exact v_index rfl rfl rfl rfl (by omega) (by omega) (by with_reducible first | exact idx4 _ _ _   | fail)  | fail) ?_ | refine l_nil ?_ | refine c_region ?_ | refine c_seq ?_ | refine x_then ?_ | refine l_skip rfl rfl ?_ | refine r_alloc rfl rfl rfl (by first | exact aggL  | fail) (fun _ => ?_) | refine r_store rfl rfl rfl rfl rfl rfl rfl (by repeat (first | exact Upd.head | apply Upd.tail)) (by rfl) ?_ | refine c_false rfl ?_ | refine c_ret ?_ | refine c_exit ?_ | refine x_then_exit ?_ | refine x_block_same ?_ | refine l_dec_f rfl rfl rfl rfl rfl (by first | omega  | fail) ?_  | fail)
      refine x_ret rfl rfl (by repeat (first | exact Res.nil | (apply Res.tmp; rfl) | (apply Res.cell; rfl; exact (by repeat (first | exact List.Mem.head _ | apply List.Mem.tail)); rfl; rfl))) rfl (fun W hW => ⟨?_, hW.below⟩)
      rw [ht]

theorem need_ok (k : Int) (w : World) : Calls Try.prog 82 ⟨[.bool true, .int .i64 k]⟩ w fun e w' => e = .returned (.tuple ⟨[]⟩) ∧ Below w.heap.size w w' := by
  refine fun_enter Try.func82 rfl Try.ntmps82 rfl rfl (satW_nil w) ?_
  repeat (first | refine l_val rfl rfl (by first | exact pureEval_ok rfl  | fail) ?_ | refine l_nil ?_ | refine c_region ?_ | refine c_seq ?_ | refine x_then ?_ | refine c_false rfl ?_ | refine c_skip ?_  | fail)
  exact x_end rfl rfl (by repeat (first | exact Res.nil | (apply Res.tmp; rfl) | (apply Res.cell; rfl; exact (by repeat (first | exact List.Mem.head _ | apply List.Mem.tail)); rfl; rfl))) rfl (fun W hW => ⟨rfl, hW.below⟩)
/-- what a panic with an error's number leaves -/
def pan (k : Int) : List PanicEntry := [{ v := .iface 31 (.int .i64 k), recovered := false }]
theorem need_no (k : Int) (w : World) : Calls Try.prog 82 ⟨[.bool false, .int .i64 k]⟩ w fun e w' => e = .panicked (pan k) ∧ Below w.heap.size w w' := by
  refine fun_enter Try.func82 rfl Try.ntmps82 rfl rfl (satW_nil w) ?_
  repeat (first | refine l_val rfl rfl (by first | exact pureEval_ok rfl  | fail) ?_ | refine l_nil ?_ | refine c_region ?_ | refine c_seq ?_ | refine x_then ?_ | refine c_true rfl ?_  | fail)
  refine l_val rfl rfl (v_iface rfl rfl rfl) ?_
  refine l_panic rfl rfl ?_
  exact x_panic rfl (fun W hW => ⟨rfl, hW.below⟩)
end R13
end Go.Proofs

set_option linter.unusedSectionVars false
set_option linter.unusedVariables false
set_option linter.unusedSimpArgs false
namespace Go.Proofs
open Go.RowKit Go.Kin Go.Kin.Tm
namespace R13
set_option maxHeartbeats 4000000
theorem iface20 : Try.prog.underlying 20 = some (.interface #[]) := by kernel_rfl
section
variable {w W : World} {J : (Nat → Prop) → World → Prop} {b b1 : Nat} {cs : List Value} {k k' : Int}
/-- nothing to recover -/
theorem door_idle (hW : SatW w (base w) J [(b, .cells ⟨[.int .i64 k]⟩ 31 (0, 0)), (b1, .cells ⟨cs⟩ 28 (0, 0))] W) :
    CallsDIn Fence.wide 0 Try.prog 61 ⟨[.pointer (some ⟨b, 0, none⟩)]⟩ .returning W fun e u' W' => (∃ r, e = .returned r) ∧ settle u' = .returning ∧ ∃ i : Unit, SatW w (base w) J [(b, .cells ⟨[.int .i64 k]⟩ 31 (0, 0)), (b1, .cells ⟨cs⟩ 28 (0, 0))] W' := by
  refine d_enter Try.func61 rfl Try.ntmps61 rfl rfl rfl hW .none ?_
  repeat (first | refine c_region ?_ | refine c_seq ?_ | refine c_block ?_  | fail)
  refine l_val rfl rfl (v_eqNil iface20 rfl) ?_
  repeat (first | refine l_val rfl rfl (by first | exact pureEval_ok rfl  | fail) ?_ | refine l_nil ?_ | refine c_region ?_ | refine x_then ?_ | refine c_true rfl ?_ | refine x_block ?_  | fail)
  exact x_door rfl rfl (by repeat (first | exact Res.nil | (apply Res.tmp; rfl) | (apply Res.cell; rfl; exact (by repeat (first | exact List.Mem.head _ | apply List.Mem.tail)); rfl; rfl))) rfl (fun W hW => ⟨⟨_, rfl⟩, rfl, (), hW⟩)
/-- an error's number is recovered -/
theorem door_pan (hW : SatW w (base w) J [(b, .cells ⟨[.int .i64 k]⟩ 31 (0, 0)), (b1, .cells ⟨cs⟩ 28 (0, 0))] W) :
    CallsDIn Fence.wide 0 Try.prog 61 ⟨[.pointer (some ⟨b, 0, none⟩)]⟩ (.panicking (pan k')) W fun e u' W' => (∃ r, e = .returned r) ∧ settle u' = .returning ∧ ∃ i : Unit, SatW w (base w) J [(b, .cells ⟨[.int .i64 k']⟩ 31 (0, 0)), (b1, .cells ⟨cs⟩ 28 (0, 0))] W' := by
  refine d_enter Try.func61 rfl Try.ntmps61 rfl rfl rfl hW (.some _ _) ?_
  repeat (first | refine c_region ?_ | refine c_seq ?_ | refine c_block ?_  | fail)
  refine l_val rfl rfl (v_eqNil_no iface20 rfl) ?_
  repeat (first | refine l_nil ?_ | refine c_region ?_ | refine c_seq ?_ | refine x_then ?_ | refine c_false rfl ?_  | fail)
  refine l_val rfl rfl (v_assertOk rfl rfl rfl) ?_
  repeat (first | refine l_val rfl rfl (by first | exact pureEval_ok rfl  | fail) ?_ | refine l_nil ?_ | refine c_region ?_ | refine c_seq ?_ | refine x_then ?_ | refine r_store rfl rfl rfl rfl rfl rfl rfl (by repeat (first | exact Upd.head | apply Upd.tail)) (by rfl) ?_ | refine c_true rfl ?_ | refine x_block ?_  | fail)
  exact x_door rfl rfl (by repeat (first | exact Res.nil | (apply Res.tmp; rfl) | (apply Res.cell; rfl; exact (by repeat (first | exact List.Mem.head _ | apply List.Mem.tail)); rfl; rfl))) rfl (fun W hW => ⟨⟨_, rfl⟩, rfl, (), hW⟩)
end
end R13
end Go.Proofs

set_option linter.unusedSectionVars false
set_option linter.unusedVariables false
set_option linter.unusedSimpArgs false
namespace Go.Proofs
open Go.RowKit Go.Kin Go.Kin.Tm
namespace R13
set_option maxHeartbeats 4000000
def valE (k : Int) : Ending := if k = 0 then .returned (.tuple ⟨[]⟩) else .panicked (pan k)
theorem need_no2 {b : Bool} (h : b = false) (k : Int) (w : World) : Calls Try.prog 82 ⟨[.bool b, .int .i64 k]⟩ w fun e w' => e = .panicked (pan k) ∧ Below w.heap.size w w' := by subst h; exact need_no k w
theorem need_ok2 {b : Bool} (h : b = true) (k : Int) (w : World) : Calls Try.prog 82 ⟨[.bool b, .int .i64 k]⟩ w fun e w' => e = .returned (.tuple ⟨[]⟩) ∧ Below w.heap.size w w' := by subst h; exact need_ok k w
section
variable {n : Int} {ts : List Tp} {ps : List Ps} {ss : List Sp}
theorem chk_lim (h : ¬ (ts.length ≤ 4096 ∧ ps.length ≤ 4096 ∧ ss.length ≤ 256)) : chk n ts ps ss = 2 := by
  unfold chk limB; rw [decide_eq_false h]; rfl
theorem chk_no (h : ts.length ≤ 4096 ∧ ps.length ≤ 4096 ∧ ss.length ≤ 256) (h2 : okClk n ts ps ss = false) : chk n ts ps ss = 130 := by
  unfold chk limB; rw [decide_eq_true h, h2]; rfl
theorem no_n (h : ¬ (1 ≤ n ∧ n ≤ 4096)) : okClk n ts ps ss = false := by
  have : inB n 1 4096 = false := decide_eq_false h
  simp [okClk, this]
theorem no_head (h : head0 ts = false) : okClk n ts ps ss = false := by simp [okClk, h]
theorem no_asc (h : asc (-1) n ts = false) : okClk n ts ps ss = false := by simp [okClk, h]
theorem no_bars (h : okBars ts n = false) : okClk n ts ps ss = false := by simp [okClk, h]
theorem no_ascP (h : ascP (-1) n ps = false) : okClk n ts ps ss = false := by simp [okClk, h]
theorem no_sp (h : ss.all (okSp n) = false) : okClk n ts ps ss = false := by
  unfold okClk; rw [h, Bool.and_false]
theorem chk_yes (h : ts.length ≤ 4096 ∧ ps.length ≤ 4096 ∧ ss.length ≤ 256) (h1 : 1 ≤ n ∧ n ≤ 4096) (h2 : head0 ts = true) (h3 : asc (-1) n ts = true) (h4 : okBars ts n = true) (h5 : ascP (-1) n ps = true) (h6 : ss.all (okSp n) = true) : chk n ts ps ss = 0 := by
  have : inB n 1 4096 = true := decide_eq_true h1
  unfold chk limB okClk; rw [decide_eq_true h, this, h2, h3, h4, h5, h6]; rfl
theorem asc_yes {last : Int} {t : Tp} {l : List Tp} (h1 : last + 1 ≤ t.bar ∧ t.bar ≤ n - 1) (h2 : -65536 ≤ t.ticks ∧ t.ticks ≤ 65536) (h3 : -65536 ≤ t.step ∧ t.step ≤ 65536) : asc last n (t :: l) = asc t.bar n l := by
  have e1 : inB t.bar (last + 1) (n - 1) = true := decide_eq_true h1
  have e2 : inB t.ticks (-65536) 65536 = true := decide_eq_true h2
  have e3 : inB t.step (-65536) 65536 = true := decide_eq_true h3
  simp [asc, e1, e2, e3]
theorem asc_no {last : Int} {t : Tp} {l : List Tp} (h : ¬ ((last + 1 ≤ t.bar ∧ t.bar ≤ n - 1) ∧ (-65536 ≤ t.ticks ∧ t.ticks ≤ 65536) ∧ (-65536 ≤ t.step ∧ t.step ≤ 65536))) : asc last n (t :: l) = false := by
  rw [Bool.eq_false_iff]
  intro hh
  simp only [asc, Bool.and_eq_true, inB_iff] at hh
  exact h ⟨hh.1.1.1, hh.1.1.2, hh.1.2⟩
theorem ascP_yes {last : Int} {p : Ps} {l : List Ps} (h1 : last + 1 ≤ p.bar ∧ p.bar ≤ n - 2) (h2 : 1 ≤ p.kind ∧ p.kind ≤ 2) (h3 : 0 ≤ p.lo ∧ p.lo ≤ p.hi) (h4 : p.hi ≤ 1048576) : ascP last n (p :: l) = ascP p.bar n l := by
  have e1 : inB p.bar (last + 1) (n - 2) = true := decide_eq_true h1
  have e2 : inB p.kind 1 2 = true := decide_eq_true h2
  have e3 : inB p.lo 0 p.hi = true := decide_eq_true h3
  simp [ascP, e1, e2, e3, h4]
theorem ascP_no {last : Int} {p : Ps} {l : List Ps} (h : ¬ ((last + 1 ≤ p.bar ∧ p.bar ≤ n - 2) ∧ (1 ≤ p.kind ∧ p.kind ≤ 2) ∧ (0 ≤ p.lo ∧ p.lo ≤ p.hi) ∧ p.hi ≤ 1048576)) : ascP last n (p :: l) = false := by
  rw [Bool.eq_false_iff]
  intro hh
  simp only [ascP, Bool.and_eq_true, inB_iff, decide_eq_true_eq] at hh
  exact h ⟨hh.1.1.1.1, hh.1.1.1.2, hh.1.1.2, hh.1.2⟩
theorem okSp_iff {s : Sp} : okSp n s = true ↔ (0 ≤ s.f ∧ s.f ≤ n) ∧ (0 ≤ s.t ∧ s.t ≤ n) ∧ s.f ≠ s.t ∧ (-1099511627776 ≤ s.lo ∧ s.lo ≤ s.hi) ∧ s.hi ≤ 1099511627776 := by
  simp only [okSp, Bool.and_eq_true, inB_iff, decide_eq_true_eq, and_assoc]
theorem drop_cons {α : Type} {l : List α} {k : Nat} {x : α} (h : l[k]? = some x) : l.drop k = x :: l.drop (k + 1) := by
  obtain ⟨h1, h2⟩ := List.getElem?_eq_some_iff.1 h
  rw [← h2, List.drop_eq_getElem_cons h1]
end

end R13
end Go.Proofs
