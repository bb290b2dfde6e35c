/- Clocks: the specification's ticks; need; what a failed need leaves. -/
import Derived.Test.YtjagcijgfmclhaaTpA
import Derived.Test.YtjagcijgfmclhaaEng19
set_option linter.unusedSectionVars false
set_option linter.unusedVariables false
set_option linter.unusedSimpArgs false
namespace Go.Proofs
open Go.RowKit Go.Kin Go.Kin.Tm
namespace R13
theorem ext_at {w : World} {A : Option Addr} {sz : Nat} {α : Type} {f : α → List Value} {l : List α} (hA : Kin.At w A sz (l.map f)) {i : Nat} {x : α} (hx : l[i]? = some x) : ∃ b o, A = some ⟨b, o, none⟩ ∧ ∀ j v, (f x)[j]? = some v → w.cell? ⟨b, o + i * sz + j, none⟩ = some v :=
  hA i (f x) (by simp [hx])

theorem rticks_calls (c : Clk) (k : Int) (w : World) (hl : c.ts.length ≤ 5000) (hn : c.n ≤ 4096) (h0 : head0 c.ts = true) (ha : asc (-1) c.n c.ts = true) (k1 : 0 ≤ k) (k2 : k ≤ 4096) (hA : c.In w) :
    Calls Try.prog 30 ⟨[.agg ⟨c.v⟩, .int .i64 k]⟩ w fun e w' => e = .returned (.int .i64 (tk c.ts k)) ∧ Below w.heap.size w w' := by
  obtain ⟨n, ts, ps, sp, A, B, C, ca, cb, cc⟩ := c
  dsimp only [Clk.v] at *
  obtain ⟨t0, g0, gz⟩ := head_of h0
  obtain ⟨i, t, e1, e2, e3, e4⟩ := at_bar (n := n) g0 gz k1
  have hA1 : Kin.At w A 3 (ts.map tpE) := hA.a
  clear hA
  have hi : i < ts.length := (List.getElem?_eq_some_iff.1 e2).1
  obtain ⟨b, o, rfl, hc⟩ := ext_at hA1 e2
  have he := ext_of hc
  have ht := tk_of ha e2 e3 e4
  obtain ⟨q1, q2, q3, q4⟩ := asc_get ha e2
  have hs := small (x := k - t.bar) (s := t.step) (by omega) (by omega) q4.1 q4.2
  refine fun_enter Try.func30 rfl Try.ntmps30 rfl rfl (satW_nil w) ?_
  repeat (first | refine l_val rfl rfl (by first | exact pureEval_ok rfl ) ?_ | refine l_nil ?_ | refine c_region ?_ | refine c_seq ?_ | refine x_then ?_ | refine r_box rfl rfl rfl rfl (fun _ => ?_) | refine c_block ?_ )
  rename_i b1
  refine c_loop (ι := Nat) (fun j => j ≤ i) (fun j => [(1, .int .i64 k), (2, .pointer (some ⟨b1, 0, none⟩)), (4, .int .i64 0), (5, .int .i64 j)]) (fun _ => [(b1, .cells ⟨[.int .i64 n, .slice (some ⟨b, o, none⟩) ts.length ca, .slice B ps.length cb, .slice C sp.length cc]⟩ 26 (0, 0))]) (fun j => i - j) 0 (by omega) (by repeat (first | exact EnvSub.nil | refine EnvSub.cons rfl (by first | rfl | (congr 1; done) | (exact congrArg (Value.int _) (by omega)) | (simp; done)) ?_)) (by repeat (first | exact MSub.nil | refine MSub.keep (by first | rfl | assumption) ?_ | refine MSub.drop ?_ | exact MSub.refl _)) ?_
  intro j hj
  by_cases hji : j < i
  · obtain ⟨u, hu⟩ : ∃ u, ts[j + 1]? = some u := ⟨_, List.getElem?_eq_getElem (by omega)⟩
    obtain ⟨b', o', h', hc'⟩ := ext_at hA1 hu
    cases h'
    have hx : Ext w (base w) b (o + ((j : Int) + 1).toNat * 3) (tpE u) := by rw [show ((j : Int) + 1).toNat = j + 1 by omega]; exact ext_of hc'
    have hub : u.bar ≤ k := by
      by_cases h : j + 1 = i
      · rw [h, e2] at hu; cases hu; exact e3
      · have := asc_lt ha (show j + 1 < i by omega) hu e2
        omega
    unfold tpE at hx
    clear he hc hc'
    repeat (first | refine l_val rfl rfl (by first | exact v_add rfl rfl (by omega) (by omega) | exact pureEval_ok rfl | exact v_load rfl (by repeat (first | exact List.Mem.head _ | apply List.Mem.tail)) rfl (by rfl) | exact v_load_ext0 rfl (by assumption) rfl (by rfl) | exact v_index rfl rfl rfl rfl (by omega) (by omega) (by with_reducible first | exact idx8 _ _ _  ) ) ?_ | refine l_nil ?_ | refine c_region ?_ | refine c_seq ?_ | refine x_then ?_ | refine c_dec_t rfl (by first | omega ) ?_ | refine c_block ?_ | refine c_skip ?_ | refine x_block ?_ | refine l_dec_t rfl rfl rfl rfl rfl (by first | omega ) ?_ )
    exact x_back (j + 1) (by omega) (by omega) (by repeat (first | exact EnvSub.nil | refine EnvSub.cons rfl (by first | rfl | (congr 1; done) | (exact congrArg (Value.int _) (by omega)) | (simp; done)) ?_)) (by repeat (first | exact MSub.nil | refine MSub.keep (by first | rfl | assumption) ?_ | refine MSub.drop ?_ | exact MSub.refl _))
  · have : j = i := by omega
    subst this
    by_cases hlt : j + 1 < ts.length
    · obtain ⟨u, hu⟩ : ∃ u, ts[j + 1]? = some u := ⟨_, List.getElem?_eq_getElem (by omega)⟩
      obtain ⟨b', o', h', hc'⟩ := ext_at hA1 hu
      cases h'
      have hx : Ext w (base w) b (o + ((j : Int) + 1).toNat * 3) (tpE u) := by rw [show ((j : Int) + 1).toNat = j + 1 by omega]; exact ext_of hc'
      have hub := e4 u hu
      unfold tpE at hx
      repeat (first | refine l_val rfl rfl (by first | exact v_add rfl rfl (by omega) (by omega) | exact v_sub rfl rfl (by omega) (by omega) | exact v_mul rfl rfl (by omega) (by omega) | exact pureEval_ok rfl | exact v_load rfl (by repeat (first | exact List.Mem.head _ | apply List.Mem.tail)) rfl (by rfl) | exact v_load_ext0 rfl (by assumption) rfl (by rfl) | exact v_index rfl rfl rfl rfl (by omega) (by omega) (by with_reducible first | exact idx4 _ _ _  | exact idx8 _ _ _  ) ) ?_ | refine l_nil ?_ | refine c_region ?_ | refine c_seq ?_ | refine x_then ?_ | refine r_alloc rfl rfl rfl (by first | exact aggL ) (fun _ => ?_) | refine r_store rfl rfl rfl rfl rfl rfl rfl (by repeat (first | exact Upd.head | apply Upd.tail)) (by rfl) ?_ | refine c_dec_f rfl (by first | omega ) ?_ | refine c_ret ?_ | refine c_exit ?_ | refine x_then_exit ?_ | refine x_block_same ?_ | refine l_dec_t rfl rfl rfl rfl rfl (by first | omega ) ?_ )
      refine x_ret rfl rfl (by repeat (first | exact Res.nil | (apply Res.tmp; rfl) | (apply Res.cell; rfl; exact (by repeat (first | exact List.Mem.head _ | apply List.Mem.tail)); rfl; rfl))) rfl (fun W hW => ⟨?_, hW.below⟩)
      rw [ht]
    · repeat (first | refine l_val rfl rfl (by first | exact v_add rfl rfl (by omega) (by omega) | exact v_sub rfl rfl (by omega) (by omega) | exact v_mul rfl rfl (by omega) (by omega) | exact pureEval_ok rfl | exact v_load rfl (by repeat (first | exact List.Mem.head _ | apply List.Mem.tail)) rfl (by rfl) | exact v_load_ext0 rfl (by assumption) rfl (by rfl) | exact v_index rfl rfl rfl rfl (by omega) (by omega) (by with_reducible first | exact idx4 _ _ _  ) ) ?_ | refine l_nil ?_ | refine c_region ?_ | refine c_seq ?_ | refine x_then ?_ | refine l_skip rfl rfl ?_ | refine r_alloc rfl rfl rfl (by first | exact aggL ) (fun _ => ?_) | refine r_store rfl rfl rfl rfl rfl rfl rfl (by repeat (first | exact Upd.head | apply Upd.tail)) (by rfl) ?_ | refine c_false rfl ?_ | refine c_ret ?_ | refine c_exit ?_ | refine x_then_exit ?_ | refine x_block_same ?_ | refine l_dec_f rfl rfl rfl rfl rfl (by first | omega ) ?_ )
      refine x_ret rfl rfl (by repeat (first | exact Res.nil | (apply Res.tmp; rfl) | (apply Res.cell; rfl; exact (by repeat (first | exact List.Mem.head _ | apply List.Mem.tail)); rfl; rfl))) rfl (fun W hW => ⟨?_, hW.below⟩)
      rw [ht]

theorem need_ok (k : Int) (w : World) : Calls Try.prog 50 ⟨[.bool true, .int .i64 k]⟩ w fun e w' => e = .returned (.tuple ⟨[]⟩) ∧ Below w.heap.size w w' := by
  refine fun_enter Try.func50 rfl Try.ntmps50 rfl rfl (satW_nil w) ?_
  repeat (first | refine l_val rfl rfl (by first | exact pureEval_ok rfl ) ?_ | refine l_nil ?_ | refine c_region ?_ | refine c_seq ?_ | refine x_then ?_ | refine c_false rfl ?_ | refine c_skip ?_ )
  exact x_end rfl rfl (by repeat (first | exact Res.nil | (apply Res.tmp; rfl) | (apply Res.cell; rfl; exact (by repeat (first | exact List.Mem.head _ | apply List.Mem.tail)); rfl; rfl))) rfl (fun W hW => ⟨rfl, hW.below⟩)
/-- what a panic with an error's number leaves -/
def pan (k : Int) : List PanicEntry := [{ v := .iface 29 (.int .i64 k), recovered := false }]
theorem need_no (k : Int) (w : World) : Calls Try.prog 50 ⟨[.bool false, .int .i64 k]⟩ w fun e w' => e = .panicked (pan k) ∧ Below w.heap.size w w' := by
  refine fun_enter Try.func50 rfl Try.ntmps50 rfl rfl (satW_nil w) ?_
  repeat (first | refine l_val rfl rfl (by first | exact pureEval_ok rfl ) ?_ | refine l_nil ?_ | refine c_region ?_ | refine c_seq ?_ | refine x_then ?_ | refine c_true rfl ?_ )
  refine l_val rfl rfl (v_iface rfl rfl rfl) ?_
  refine l_panic rfl rfl ?_
  exact x_panic rfl (fun W hW => ⟨rfl, hW.below⟩)
end R13
end Go.Proofs
