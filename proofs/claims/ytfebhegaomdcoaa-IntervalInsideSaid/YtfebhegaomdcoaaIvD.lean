/- Intervals: the iterator over products, walked. -/
import Derived.Test.YtfebhegaomdcoaaIvC
set_option linter.unusedSectionVars false
set_option linter.unusedVariables false
set_option linter.unusedSimpArgs false
namespace Go.Proofs
open Go.RowKit Go.Kin Go.Kin.Iv
namespace R21

/-- the products up to the first that is beyond the limits -/
def fitB (p : Int) : Bool := decide (p.natAbs ≤ 1099511627776)
def cutL : List Int → List (Int × Bool)
  | [] => []
  | p :: l => if fitB p then (p, true) :: cutL l else [(0, false)]
def prE (p : Int × Bool) : List Value := [.int .i64 p.1, .bool p.2]
def prods (a b c d : Int) : List Int := [a * c, a * d, b * c, b * d]
def prL (a b c d : Int) : List (Int × Bool) := cutL (prods a b c d)
theorem cut_yes : ∀ (l : List Int) (k : Nat) (p : Int), (l.take k).all fitB = true → l[k]? = some p → fitB p = true → (cutL l)[k]? = some (p, true)
  | [], k, p, _, h, _ => by cases h
  | q :: l, 0, p, _, h, hp => by
    cases h
    show (if fitB q then (q, true) :: cutL l else [(0, false)])[0]? = _
    rw [hp]; rfl
  | q :: l, k + 1, p, ha, h, hp => by
    have h1 : fitB q = true ∧ (l.take k).all fitB = true := by simpa using ha
    show (if fitB q then (q, true) :: cutL l else [(0, false)])[k + 1]? = _
    rw [h1.1]
    exact cut_yes l k p h1.2 h hp
theorem cut_no : ∀ (l : List Int) (k : Nat) (p : Int), (l.take k).all fitB = true → l[k]? = some p → fitB p = false → (cutL l)[k]? = some (0, false) ∧ (cutL l).length = k + 1
  | [], k, p, _, h, _ => by cases h
  | q :: l, 0, p, _, h, hp => by
    cases h
    show (if fitB q then (q, true) :: cutL l else [(0, false)])[0]? = _ ∧ (if fitB q then (q, true) :: cutL l else [(0, false)]).length = _
    rw [hp]; exact ⟨rfl, rfl⟩
  | q :: l, k + 1, p, ha, h, hp => by
    have h1 : fitB q = true ∧ (l.take k).all fitB = true := by simpa using ha
    show (if fitB q then (q, true) :: cutL l else [(0, false)])[k + 1]? = _ ∧ (if fitB q then (q, true) :: cutL l else [(0, false)]).length = _
    rw [h1.1]
    obtain ⟨g1, g2⟩ := cut_no l k p h1.2 h hp
    exact ⟨g1, by show (cutL l).length + 1 = _; rw [g2]⟩
theorem cut_all : ∀ (l : List Int), l.all fitB = true → cutL l = l.map fun p => (p, true)
  | [], _ => rfl
  | q :: l, ha => by
    have h1 : fitB q = true ∧ l.all fitB = true := by simpa using ha
    show (if fitB q then (q, true) :: cutL l else [(0, false)]) = _
    rw [h1.1, cut_all l h1.2]; rfl
/-- the chosen end -/
def sel (a b : Int) (i : Nat) : Int := if i = 0 then a else b
theorem sel_get {a b : Int} {i : Nat} (h : i < 2) : aggV false 1 [.int .i64 a, .int .i64 b] ((i : Int).toNat * 1) = some (.int .i64 (sel a b i)) := by
  rcases i with _ | _ | i
  · rfl
  · rfl
  · omega
theorem prods_get {a b c d : Int} {i j : Nat} (hi : i < 2) (hj : j < 2) : (prods a b c d)[2 * i + j]? = some (sel a b i * sel c d j) := by
  rcases i with _ | _ | i <;> rcases j with _ | _ | j <;> first | rfl | omega
theorem sel_mem {a b : Int} {i : Nat} : sel a b i = a ∨ sel a b i = b := by unfold sel; split <;> simp

theorem products_calls (a b c d : Int) (w : World) :
    Calls Try.prog 41 ⟨[.agg ⟨rgE a b⟩, .agg ⟨rgE c d⟩]⟩ w fun e w' => ∃ y z, e = .returned (.func (.func 52) ⟨[]⟩ ⟨[.pointer (some ⟨y, 0, none⟩), .pointer (some ⟨z, 0, none⟩)]⟩) ∧ Below w.heap.size w w' ∧ w.heap.size ≤ y ∧ w'.heap[y]? = some (.cells ⟨rgE a b⟩ 23 (0, 0)) ∧
      w.heap.size ≤ z ∧ w'.heap[z]? = some (.cells ⟨rgE c d⟩ 23 (0, 0)) ∧ z ≠ y := by
  refine fun_enter Try.func41 rfl Try.ntmps41 rfl rfl (satW_nil w) ?_
  repeat (first | refine l_val rfl rfl (by first | exact pureEval_ok rfl ) ?_ | refine l_nil ?_ | refine c_region ?_ | refine c_seq ?_ | refine x_then ?_ | refine r_box rfl rfl rfl rfl (fun _ => ?_) | refine c_ret ?_ )
  refine x_ret rfl rfl (by repeat (first | exact Res.nil | (apply Res.tmp; rfl) | (apply Res.cell; rfl; exact (by repeat (first | exact List.Mem.head _ | apply List.Mem.tail)); rfl; rfl))) rfl (fun W hW => ?_)
  rename_i y z
  have h1 := hW.own (y, .cells ⟨rgE a b⟩ 23 (0, 0)) (by repeat (first | exact List.Mem.head _ | apply List.Mem.tail))
  have h2 := hW.own (z, .cells ⟨rgE c d⟩ 23 (0, 0)) (by repeat (first | exact List.Mem.head _ | apply List.Mem.tail))
  have h3 := hW.nodup
  exact ⟨y, z, rfl, hW.below, Nat.le_of_not_lt h1.1, h1.2, Nat.le_of_not_lt h2.1, h2.2, fun e => by simp [e] at h3⟩

theorem products_it (R : Nat → Prop) (y z : Nat) (a b c d : Int) (W : World) (h1 : vB a b = true) (h2 : vB c d = true) (hy1 : W.heap[y]? = some (.cells ⟨rgE a b⟩ 23 (0, 0))) (hz1 : W.heap[z]? = some (.cells ⟨rgE c d⟩ 23 (0, 0)))
    (hR : ∀ k, R k → k < W.heap.size) (hRy : R y) (hRz : R z) :
    It Try.prog 52 [.pointer (some ⟨y, 0, none⟩), .pointer (some ⟨z, 0, none⟩)] prE (prL a b c d) R W := by
  intro lp J Jx cJ cJx hy h0
  have hb1 : Ext W R y 0 (rgE a b) := ⟨hRy, fun i v hi => by
    unfold World.cell?; rw [hy1, Nat.zero_add]; simpa using hi⟩
  have hb2 : Ext W R z 0 (rgE c d) := ⟨hRz, fun i v hi => by
    unfold World.cell?; rw [hz1, Nat.zero_add]; simpa using hi⟩
  have hs : SatW W R (J 0) [] W := ⟨Same.refl _ _, hR, List.nodup_nil, fun p hp => (by cases hp), cJ 0, cJ 0 _ _ _ _ h0 (Same.refl _ _) fun b hb => (by cases hb)⟩
  obtain ⟨g1, g2, g3⟩ := vB_iff.1 h1
  obtain ⟨k1, k2, k3⟩ := vB_iff.1 h2
  refine fun_enter Try.func52 rfl Try.ntmps52 rfl rfl hs ?_
  repeat (first | refine l_val rfl rfl (by first | exact pureEval_ok rfl | exact v_load_ext0 rfl (by assumption) rfl (by rfl) | exact v_load_ext rfl (by assumption) rfl (by rfl) | exact v_buildA rfl rfl rfl (by rfl) ) ?_ | refine l_nil ?_ | refine c_region ?_ | refine c_seq ?_ | refine x_then ?_ | refine c_block ?_ )
  refine c_loopD (ι := Nat) (fun i => i ≤ 2 ∧ ((prods a b c d).take (2 * i)).all fitB = true) (fun _ => []) (fun i => J (2 * i)) (fun i => [(0, .func (.yield lp) ⟨[]⟩ ⟨[]⟩), (1, .pointer (some ⟨y, 0, none⟩)), (2, .pointer (some ⟨z, 0, none⟩)), (14, .agg ⟨rgE a b⟩), (15, .int .i64 i)]) (fun _ => []) (fun i => 2 - i) 0 ⟨by omega, rfl⟩ rfl rfl (by repeat (first | exact EnvSub.nil | refine EnvSub.cons rfl (by first | rfl | (congr 1; done) | (exact congrArg (Value.int _) (by omega)) | (simp; done)) ?_)) (by repeat (first | exact MSub.nil | refine MSub.keep (by first | rfl | assumption) ?_ | refine MSub.drop ?_ | exact MSub.refl _)) ?_
  rintro i ⟨hi, hall⟩
  by_cases hlt : i < 2
  · have hx := sel_get (a := a) (b := b) hlt
    have bx := sel_mem (a := a) (b := b) (i := i)
    obtain ⟨x, ex⟩ : ∃ x, sel a b i = x := ⟨_, rfl⟩
    rw [ex] at hx bx
    have b1 : -1099511627776 ≤ x ∧ x ≤ 1099511627776 := by omega
    repeat (first | refine l_val rfl rfl (by first | exact pureEval_ok rfl | exact v_load_ext0 rfl (by assumption) rfl (by rfl) | exact v_load_ext rfl (by assumption) rfl (by rfl) | exact v_ix rfl rfl rfl rfl (by omega) (by omega) (by assumption) | exact v_buildA rfl rfl rfl (by rfl) ) ?_ | refine l_nil ?_ | refine c_region ?_ | refine c_seq ?_ | refine x_then ?_ | refine c_dec_t rfl (by first | omega ) ?_ | refine c_block ?_ | refine c_skip ?_ )
    refine c_loopD (ι := Nat) (fun j => j ≤ 2 ∧ ((prods a b c d).take (2 * i + j)).all fitB = true) (fun _ => []) (fun j => J (2 * i + j)) (fun j => [(0, .func (.yield lp) ⟨[]⟩ ⟨[]⟩), (1, .pointer (some ⟨y, 0, none⟩)), (2, .pointer (some ⟨z, 0, none⟩)), (14, .agg ⟨rgE a b⟩), (15, .int .i64 i), (5, .int .i64 x), (22, .agg ⟨rgE c d⟩), (23, .int .i64 j)]) (fun _ => []) (fun j => 2 - j) 0 ⟨by omega, hall⟩ rfl rfl (by repeat (first | exact EnvSub.nil | refine EnvSub.cons rfl (by first | rfl | (congr 1; done) | (exact congrArg (Value.int _) (by omega)) | (simp; done)) ?_)) (by repeat (first | exact MSub.nil | refine MSub.keep (by first | rfl | assumption) ?_ | refine MSub.drop ?_ | exact MSub.refl _)) ?_
    rintro j ⟨hj, hall2⟩
    by_cases hltj : j < 2
    · have hx2 := sel_get (a := c) (b := d) hltj
      have bx2 := sel_mem (a := c) (b := d) (i := j)
      have hp := prods_get (a := a) (b := b) (c := c) (d := d) hlt hltj
      obtain ⟨u, eu⟩ : ∃ u, sel c d j = u := ⟨_, rfl⟩
      rw [eu] at hx2 bx2 hp
      rw [ex] at hp
      have b2 : -1099511627776 ≤ u ∧ u ≤ 1099511627776 := by omega
      repeat (first | refine l_val rfl rfl (by first | exact pureEval_ok rfl | exact v_ix rfl rfl rfl rfl (by omega) (by omega) (by assumption) ) ?_ | refine l_nil ?_ | refine c_region ?_ | refine c_seq ?_ | refine x_then ?_ | refine c_dec_t rfl (by first | omega ) ?_ | refine c_block ?_ | refine c_skip ?_ )
      refine r_call rfl rfl rfl (fun W hW => size_calls x W (by omega) (by omega)) ?_
      repeat (first | refine l_val rfl rfl (by first | exact pureEval_ok rfl ) ?_ )
      refine r_call rfl rfl rfl (fun W hW => size_calls u W (by omega) (by omega)) ?_
      skip
      refine r_call rfl rfl rfl (fun W hW => Mul64_calls x.natAbs u.natAbs (by omega) (by omega) W) ?_
      obtain ⟨hi2, ehi⟩ : ∃ h, x.natAbs * u.natAbs / 18446744073709551616 = h := ⟨_, rfl⟩
      obtain ⟨lo2, elo⟩ : ∃ h, x.natAbs * u.natAbs % 18446744073709551616 = h := ⟨_, rfl⟩
      have hnm : (x * u).natAbs = x.natAbs * u.natAbs := Int.natAbs_mul x u
      rw [ehi, elo]
      have hT : (prods a b c d).take (2 * i + j + 1) = (prods a b c d).take (2 * i + j) ++ [x * u] := by rw [List.take_add_one, hp]; rfl
      cases hf : fitB (x * u) with
      | true =>
        have hf2 : (x * u).natAbs ≤ 1099511627776 := of_decide_eq_true hf
        have e1 := cut_yes _ _ _ hall2 hp hf
        obtain ⟨q1, q2⟩ := List.getElem?_eq_some_iff.1 e1
        have t1 : hi2 = 0 := by rw [← ehi, ← hnm]; omega
        have t2 : lo2 ≤ 1099511627776 := by rw [← elo, ← hnm]; omega
        have t3 : -1099511627776 ≤ x * u ∧ x * u ≤ 1099511627776 := by omega
        clear ehi elo hnm hf2
        repeat (first | refine l_val rfl rfl (by first | exact v_mul rfl rfl (by omega) (by omega) | exact pureEval_ok rfl ) ?_ | refine l_nil ?_ | refine c_region ?_ | refine c_seq ?_ | refine x_then ?_ | refine c_dec_f rfl (by first | omega | exact fun h => h rfl ) ?_ | refine c_skip ?_ | refine l_dec_f rfl rfl rfl rfl rfl (by first | omega | exact fun h => h rfl ) ?_ )
        refine l_yield rfl rfl rfl rfl rfl (cJ (2 * i + j + 1)) (cJx (2 * i + j)) (fun S A hj hS => by have := hy (2 * i + j) q1 S A hj hS; unfold prL at this; rw [q2] at this; exact this) ?_ (fun W0 => ?_)
        · repeat (first | refine l_val rfl rfl (by first | exact v_add rfl rfl (by omega) (by omega) | exact pureEval_ok rfl ) ?_ | refine l_nil ?_ | refine c_region ?_ | refine x_then ?_ | refine c_false rfl ?_ | refine c_skip ?_ | refine x_block ?_ )
          exact x_backD (j + 1) ⟨by omega, by rw [← Nat.add_assoc, hT, List.all_append, hall2]; simp [hf]⟩ (by omega) rfl rfl (by repeat (first | exact EnvSub.nil | refine EnvSub.cons rfl (by first | rfl | (congr 1; done) | (exact congrArg (Value.int _) (by omega)) | (simp; done)) ?_)) (by repeat (first | exact MSub.nil | refine MSub.keep (by first | rfl | assumption) ?_ | refine MSub.drop ?_ | exact MSub.refl _))
        · repeat (first | refine l_val rfl rfl (by first | exact pureEval_ok rfl ) ?_ | refine l_nil ?_ | refine x_then ?_ | refine c_true rfl ?_ | refine c_ret ?_ | refine x_then_ret ?_ | refine x_block_ret ?_ )
          exact x_ret rfl rfl (by repeat (first | exact Res.nil | (apply Res.tmp; rfl) | (apply Res.cell; rfl; exact (by repeat (first | exact List.Mem.head _ | apply List.Mem.tail)); rfl; rfl))) rfl (fun W hW => ⟨⟨_, rfl⟩, .inr ⟨2 * i + j, q1, _, hW.word⟩⟩)
      | false =>
        have hf2 : ¬ (x * u).natAbs ≤ 1099511627776 := of_decide_eq_false hf
        obtain ⟨e1, e2⟩ := cut_no _ _ _ hall2 hp hf
        obtain ⟨q1, q2⟩ := List.getElem?_eq_some_iff.1 e1
        by_cases t1 : hi2 = 0
        · have t2 : ¬ lo2 ≤ 1099511627776 := by rw [← elo, ← hnm]; rw [← ehi, ← hnm] at t1; omega
          clear ehi elo hnm hf2
          repeat (first | refine l_val rfl rfl (by first | exact pureEval_ok rfl ) ?_ | refine l_nil ?_ | refine c_region ?_ | refine c_seq ?_ | refine x_then ?_ | refine c_dec_t rfl (by first | omega ) ?_ | refine l_dec_f rfl rfl rfl rfl rfl (by first | omega ) ?_ )
          refine l_yield rfl rfl rfl rfl rfl (cJ (2 * i + j + 1)) (cJx (2 * i + j)) (fun S A hj hS => by have := hy (2 * i + j) q1 S A hj hS; unfold prL at this; rw [q2] at this; exact this) ?_ (fun W0 => ?_)
          · repeat (first | refine l_nil ?_ | refine x_then ?_ | refine c_ret ?_ | refine x_then_ret ?_ | refine x_block_ret ?_ )
            exact x_ret rfl rfl (by repeat (first | exact Res.nil | (apply Res.tmp; rfl) | (apply Res.cell; rfl; exact (by repeat (first | exact List.Mem.head _ | apply List.Mem.tail)); rfl; rfl))) rfl (fun W hW => ⟨⟨_, rfl⟩, .inl ⟨_, by unfold prL; rw [e2]; exact hW.word⟩⟩)
          · repeat (first | refine l_nil ?_ | refine x_then ?_ | refine c_ret ?_ | refine x_then_ret ?_ | refine x_block_ret ?_ )
            exact x_ret rfl rfl (by repeat (first | exact Res.nil | (apply Res.tmp; rfl) | (apply Res.cell; rfl; exact (by repeat (first | exact List.Mem.head _ | apply List.Mem.tail)); rfl; rfl))) rfl (fun W hW => ⟨⟨_, rfl⟩, .inr ⟨2 * i + j, q1, _, hW.word⟩⟩)
        · clear ehi elo hnm hf2
          repeat (first | refine l_val rfl rfl (by first | exact pureEval_ok rfl ) ?_ | refine l_nil ?_ | refine c_region ?_ | refine c_seq ?_ | refine x_then ?_ | refine l_skip rfl rfl ?_ | refine c_true rfl ?_ | refine l_dec_t rfl rfl rfl rfl rfl (by first | omega ) ?_ )
          refine l_yield rfl rfl rfl rfl rfl (cJ (2 * i + j + 1)) (cJx (2 * i + j)) (fun S A hj hS => by have := hy (2 * i + j) q1 S A hj hS; unfold prL at this; rw [q2] at this; exact this) ?_ (fun W0 => ?_)
          · repeat (first | refine l_nil ?_ | refine x_then ?_ | refine c_ret ?_ | refine x_then_ret ?_ | refine x_block_ret ?_ )
            exact x_ret rfl rfl (by repeat (first | exact Res.nil | (apply Res.tmp; rfl) | (apply Res.cell; rfl; exact (by repeat (first | exact List.Mem.head _ | apply List.Mem.tail)); rfl; rfl))) rfl (fun W hW => ⟨⟨_, rfl⟩, .inl ⟨_, by unfold prL; rw [e2]; exact hW.word⟩⟩)
          · repeat (first | refine l_nil ?_ | refine x_then ?_ | refine c_ret ?_ | refine x_then_ret ?_ | refine x_block_ret ?_ )
            exact x_ret rfl rfl (by repeat (first | exact Res.nil | (apply Res.tmp; rfl) | (apply Res.cell; rfl; exact (by repeat (first | exact List.Mem.head _ | apply List.Mem.tail)); rfl; rfl))) rfl (fun W hW => ⟨⟨_, rfl⟩, .inr ⟨2 * i + j, q1, _, hW.word⟩⟩)
    · have hkl : j = 2 := by omega
      subst hkl
      repeat (first | refine l_val rfl rfl (by first | exact v_add rfl rfl (by omega) (by omega) | exact pureEval_ok rfl ) ?_ | refine l_nil ?_ | refine c_region ?_ | refine c_seq ?_ | refine x_then ?_ | refine c_false rfl ?_ | refine c_exit ?_ | refine x_then_exit ?_ | refine x_block ?_ | refine x_block_same ?_ )
      exact x_backD (i + 1) ⟨by omega, hall2⟩ (by omega) rfl rfl (by repeat (first | exact EnvSub.nil | refine EnvSub.cons rfl (by first | rfl | (congr 1; done) | (exact congrArg (Value.int _) (by omega)) | (simp; done)) ?_)) (by repeat (first | exact MSub.nil | refine MSub.keep (by first | rfl | assumption) ?_ | refine MSub.drop ?_ | exact MSub.refl _))
  · have hkl : i = 2 := by omega
    subst hkl
    have hlen : (prL a b c d).length = 4 := by
      unfold prL
      rw [cut_all _ (by simpa [prods] using hall)]; rfl
    repeat (first | refine l_val rfl rfl (by first | exact pureEval_ok rfl ) ?_ | refine l_nil ?_ | refine c_region ?_ | refine c_seq ?_ | refine x_then ?_ | refine c_false rfl ?_ | refine c_exit ?_ | refine x_then_exit ?_ | refine x_block_same ?_ )
    exact x_end rfl rfl (by repeat (first | exact Res.nil | (apply Res.tmp; rfl) | (apply Res.cell; rfl; exact (by repeat (first | exact List.Mem.head _ | apply List.Mem.tail)); rfl; rfl))) rfl (fun W hW => ⟨⟨_, rfl⟩, .inl ⟨_, by rw [hlen]; exact hW.word⟩⟩)
end R21
end Go.Proofs
