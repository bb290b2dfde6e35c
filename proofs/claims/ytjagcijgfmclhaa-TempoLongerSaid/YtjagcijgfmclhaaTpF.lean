/- Clocks: Check, in the specification. -/
import Derived.Test.YtjagcijgfmclhaaTpDm
set_option linter.unusedSectionVars false
set_option linter.unusedVariables false
set_option linter.unusedSimpArgs false
namespace Go.Proofs
open Go.RowKit Go.Kin Go.Kin.Tm
namespace R13
/-- the bar of the element ahead of a place -/
def lastT (ts : List Tp) : Nat → Int
  | 0 => -1
  | k + 1 => (ts.getD k default).bar
def lastP (ps : List Ps) : Nat → Int
  | 0 => -1
  | k + 1 => (ps.getD k default).bar

set_option maxRecDepth 100000 in
set_option maxHeartbeats 4000000 in
theorem spans_calls (c : Clk) (w : World) (hl3 : c.sp.length ≤ 5000) (hA : c.In w) :
    Calls Try.prog 38 ⟨[.agg ⟨c.v⟩]⟩ w fun e w' => e = .returned (.bool (c.sp.all (okSp c.n))) ∧ Below w.heap.size w w' := by
  obtain ⟨n, ts, ps, sp, A, B, C, ca, cb, cc⟩ := c
  dsimp only [Clk.v] at *
  refine fun_enter Try.func38 rfl Try.ntmps38 rfl rfl (satW_nil w) ?_
  repeat (first | refine l_val rfl rfl (by first | exact pureEval_ok rfl ) ?_ | refine l_nil ?_ | refine c_region ?_ | refine c_seq ?_ | refine x_then ?_ | refine r_box rfl rfl rfl rfl (fun _ => ?_) | refine c_block ?_ )
  rename_i b1
  refine c_loop (ι := Nat) (fun k => k ≤ sp.length ∧ sp.all (okSp n) = (sp.drop k).all (okSp n)) (fun k => [(1, .pointer (some ⟨b1, 0, none⟩)), (2, .bool false), (3, .int .i64 k)]) (fun _ => [(b1, .cells ⟨[.int .i64 n, .slice A ts.length ca, .slice B ps.length cb, .slice C sp.length cc]⟩ 26 (0, 0))]) (fun k => sp.length - k) 0 ⟨by omega, rfl⟩ (by repeat (first | exact EnvSub.nil | refine EnvSub.cons rfl (by first | rfl | (congr 1; done) | (exact congrArg (Value.int _) (by omega)) | (simp; done)) ?_)) (by repeat (first | exact MSub.nil | refine MSub.keep (by first | rfl | assumption) ?_ | refine MSub.drop ?_ | exact MSub.refl _)) ?_
  rintro k ⟨i1, i4⟩
  by_cases hlt : k < sp.length
  · obtain ⟨t, ht⟩ : ∃ t, sp[k]? = some t := ⟨_, List.getElem?_eq_getElem hlt⟩
    obtain ⟨b', o', rfl, hc⟩ := ext_at hA.c ht
    have he := ext_of hc
    unfold spE at he
    rw [drop_cons ht, List.all_cons] at i4
    by_cases hg : (0 ≤ t.f ∧ t.f ≤ n) ∧ (0 ≤ t.t ∧ t.t ≤ n) ∧ t.f ≠ t.t ∧ (-1099511627776 ≤ t.lo ∧ t.lo ≤ t.hi) ∧ t.hi ≤ 1099511627776
    · rw [okSp_iff.2 hg, Bool.true_and] at i4
      obtain ⟨⟨g1, g2⟩, ⟨g3, g4⟩, g5, ⟨g6, g7⟩, g8⟩ := hg
      repeat (first | refine l_val rfl rfl (by first | exact v_add rfl rfl (by omega) (by omega) | exact pureEval_ok rfl | exact v_load rfl (by repeat (first | exact List.Mem.head _ | apply List.Mem.tail)) rfl (by rfl) | exact v_load_ext0 rfl (by assumption) rfl (by rfl) | exact v_index rfl rfl rfl rfl (by omega) (by omega) (by with_reducible first | exact idx4 _ _ _  ) ) ?_ | refine l_nil ?_ | refine c_region ?_ | refine c_seq ?_ | refine x_then ?_ | refine r_alloc rfl rfl rfl (by first | exact aggL ) (fun _ => ?_) | refine r_store rfl rfl rfl rfl rfl rfl rfl (by repeat (first | exact Upd.head | apply Upd.tail)) (by rfl) ?_ | refine c_dec_t rfl (by first | omega ) ?_ | refine c_dec_f rfl (by first | omega ) ?_ | refine c_block ?_ | refine c_skip ?_ | refine x_block ?_ | refine l_dec_f rfl rfl rfl rfl rfl (by first | omega ) ?_ | refine l_not_f rfl rfl rfl rfl (by first | omega ) ?_ | (refine r_call rfl rfl rfl (fun W hW => within_calls _ _ _ W) ?_) )
      exact x_back (k + 1) ⟨hlt, i4⟩ (by omega) (by repeat (first | exact EnvSub.nil | refine EnvSub.cons rfl (by first | rfl | (congr 1; done) | (exact congrArg (Value.int _) (by omega)) | (simp; done)) ?_)) (by repeat (first | exact MSub.nil | refine MSub.keep (by first | rfl | assumption) ?_ | refine MSub.drop ?_ | exact MSub.refl _))
    · rw [Bool.eq_false_iff.2 fun h => hg (okSp_iff.1 h), Bool.false_and] at i4
      repeat' (first | refine l_val rfl rfl (by first | exact pureEval_ok rfl | exact v_load rfl (by repeat (first | exact List.Mem.head _ | apply List.Mem.tail)) rfl (by rfl) | exact v_load_ext0 rfl (by assumption) rfl (by rfl) | exact v_index rfl rfl rfl rfl (by omega) (by omega) (by with_reducible first | exact idx4 _ _ _  ) ) ?_ | refine l_nil ?_ | refine c_region ?_ | refine c_seq ?_ | refine x_then ?_ | refine l_skip rfl rfl ?_ | refine r_alloc rfl rfl rfl (by first | exact aggL ) (fun _ => ?_) | refine r_store rfl rfl rfl rfl rfl rfl rfl (by repeat (first | exact Upd.head | apply Upd.tail)) (by rfl) ?_ | refine c_true rfl ?_ | refine c_dec_t rfl (by first | omega ) ?_ | refine c_block ?_ | refine c_skip ?_ | refine c_ret ?_ | refine x_then_ret ?_ | refine x_block_ret ?_ | (refine r_call rfl rfl rfl (fun W hW => within_calls _ _ _ W) ?_) | refine l_dec rfl rfl rfl rfl rfl (fun _ => ?_) (fun _ => ?_) | refine c_dec rfl (fun _ => ?_) (fun _ => ?_) | refine l_notS rfl rfl rfl rfl (fun _ => ?_) (fun _ => ?_) )
      all_goals
        exact x_ret rfl rfl (by repeat (first | exact Res.nil | (apply Res.tmp; rfl) | (apply Res.cell; rfl; exact (by repeat (first | exact List.Mem.head _ | apply List.Mem.tail)); rfl; rfl))) rfl (fun W hW => ⟨by rw [i4], hW.below⟩)
  have hk : k = sp.length := by omega
  subst hk
  have hs : sp.all (okSp n) = true := by rw [i4, List.drop_length]; rfl
  repeat (first | refine l_val rfl rfl (by first | exact pureEval_ok rfl | exact v_load rfl (by repeat (first | exact List.Mem.head _ | apply List.Mem.tail)) rfl (by rfl) ) ?_ | refine l_nil ?_ | refine c_region ?_ | refine c_seq ?_ | refine x_then ?_ | refine c_dec_f rfl (by first | omega ) ?_ | refine c_ret ?_ | refine c_exit ?_ | refine x_then_exit ?_ | refine x_block_same ?_ )
  exact x_ret rfl rfl (by repeat (first | exact Res.nil | (apply Res.tmp; rfl) | (apply Res.cell; rfl; exact (by repeat (first | exact List.Mem.head _ | apply List.Mem.tail)); rfl; rfl))) rfl (fun W hW => ⟨by rw [hs], hW.below⟩)

set_option maxRecDepth 100000 in
set_option maxHeartbeats 4000000 in
theorem pauses_calls (c : Clk) (w : World) (hn : 1 ≤ c.n ∧ c.n ≤ 4096) (hl3 : c.ps.length ≤ 5000) (hA : c.In w) :
    Calls Try.prog 37 ⟨[.agg ⟨c.v⟩]⟩ w fun e w' => e = .returned (.bool (ascP (-1) c.n c.ps)) ∧ Below w.heap.size w w' := by
  obtain ⟨n, ts, ps, sp, A, B, C, ca, cb, cc⟩ := c
  dsimp only [Clk.v] at *
  obtain ⟨hn1, hn2⟩ := hn
  refine fun_enter Try.func37 rfl Try.ntmps37 rfl rfl (satW_nil w) ?_
  repeat (first | refine l_val rfl rfl (by first | exact pureEval_ok rfl ) ?_ | refine l_nil ?_ | refine c_region ?_ | refine c_seq ?_ | refine x_then ?_ | refine r_box rfl rfl rfl rfl (fun _ => ?_) | refine c_block ?_ )
  rename_i b1
  refine c_loop (ι := Nat) (fun k => k ≤ ps.length ∧ -1 ≤ lastP ps k ∧ ascP (-1) n ps = ascP (lastP ps k) n (ps.drop k)) (fun k => [(1, .pointer (some ⟨b1, 0, none⟩)), (2, .bool false), (3, .int .i64 k)]) (fun _ => [(b1, .cells ⟨[.int .i64 n, .slice A ts.length ca, .slice B ps.length cb, .slice C sp.length cc]⟩ 26 (0, 0))]) (fun k => ps.length - k) 0 ⟨by omega, Int.le_refl (-1), rfl⟩ (by repeat (first | exact EnvSub.nil | refine EnvSub.cons rfl (by first | rfl | (congr 1; done) | (exact congrArg (Value.int _) (by omega)) | (simp; done)) ?_)) (by repeat (first | exact MSub.nil | refine MSub.keep (by first | rfl | assumption) ?_ | refine MSub.drop ?_ | exact MSub.refl _)) ?_
  rintro k ⟨i1, i2, i4⟩
  by_cases hlt : k < ps.length
  · obtain ⟨t, ht⟩ : ∃ t, ps[k]? = some t := ⟨_, List.getElem?_eq_getElem hlt⟩
    obtain ⟨b', o', rfl, hc⟩ := ext_at hA.b ht
    have he := ext_of hc
    unfold psE at he
    rw [drop_cons ht] at i4
    have hlast : lastP ps (k + 1) = t.bar := by show (ps.getD k default).bar = t.bar; rw [getD_of ht]
    obtain ⟨last, hl⟩ : ∃ x, lastP ps k = x := ⟨_, rfl⟩
    rw [hl] at i4 i2
    have hx : 0 < k → ∃ u : Ps, u.bar = last ∧ Ext w (base w) b' (o' + ((k : Int) - 1).toNat * 4) (psE u) := fun h0 => by
      obtain ⟨u, hu⟩ : ∃ u, ps[k - 1]? = some u := ⟨_, List.getElem?_eq_getElem (by omega)⟩
      obtain ⟨b2, o2, h', hc'⟩ := ext_at hA.b hu
      cases h'
      refine ⟨u, ?_, by rw [show ((k : Int) - 1).toNat = k - 1 by omega]; exact ext_of hc'⟩
      rw [← hl, show k = k - 1 + 1 by omega]; show u.bar = (ps.getD (k - 1) default).bar; rw [getD_of hu]
    by_cases hg : (last + 1 ≤ t.bar ∧ t.bar ≤ n - 2) ∧ (1 ≤ t.kind ∧ t.kind ≤ 2) ∧ (0 ≤ t.lo ∧ t.lo ≤ t.hi) ∧ t.hi ≤ 1048576
    · rw [ascP_yes hg.1 hg.2.1 hg.2.2.1 hg.2.2.2, ← hlast] at i4
      obtain ⟨⟨g1, g2⟩, ⟨g3, g4⟩, ⟨g5, g6⟩, g7⟩ := hg
      rcases Nat.eq_zero_or_pos k with h0 | h0
      · subst h0
        clear hx
        have hl : last = -1 := hl.symm
        rcases (show t.kind = 1 ∨ t.kind = 2 by omega) with hk | hk
        · repeat (first | refine l_val rfl rfl (by first | exact v_add rfl rfl (by omega) (by omega) | exact pureEval_ok rfl | exact v_load rfl (by repeat (first | exact List.Mem.head _ | apply List.Mem.tail)) rfl (by rfl) | exact v_load_ext0 rfl (by assumption) rfl (by rfl) | exact v_index rfl rfl rfl rfl (by omega) (by omega) (by with_reducible first | exact idx4 _ _ _  ) ) ?_ | refine l_nil ?_ | refine c_region ?_ | refine c_seq ?_ | refine x_then ?_ | refine r_alloc rfl rfl rfl (by first | exact aggL ) (fun _ => ?_) | refine r_store rfl rfl rfl rfl rfl rfl rfl (by repeat (first | exact Upd.head | apply Upd.tail)) (by rfl) ?_ | refine c_false rfl ?_ | refine c_dec_t rfl (by first | omega ) ?_ | refine c_dec_f rfl (by first | omega | exact fun h => h rfl ) ?_ | refine c_block ?_ | refine c_skip ?_ | refine x_block ?_ | refine l_dec_f rfl rfl rfl rfl rfl (by first | omega ) ?_ | refine c_reads rfl (by decide +kernel) ?_ | refine q_val rfl rfl (by first | exact v_sub rfl rfl (by omega) (by omega) | exact pureEval_ok rfl | exact v_load rfl (by repeat (first | exact List.Mem.head _ | apply List.Mem.tail)) rfl (by rfl) ) ?_ | refine q_nil ?_ | refine q_skip rfl rfl ?_ | refine q_dec_f rfl rfl rfl rfl (by first | omega | exact fun h => h rfl ) ?_ | refine q_not_f rfl rfl rfl rfl (by first | omega ) ?_ | (refine q_call rfl rfl rfl (fun W hW => within_calls _ _ _ W) ?_) )
          exact x_back (0 + 1) ⟨hlt, by rw [hlast]; omega, i4⟩ (by omega) (by repeat (first | exact EnvSub.nil | refine EnvSub.cons rfl (by first | rfl | (congr 1; done) | (exact congrArg (Value.int _) (by omega)) | (simp; done)) ?_)) (by repeat (first | exact MSub.nil | refine MSub.keep (by first | rfl | assumption) ?_ | refine MSub.drop ?_ | exact MSub.refl _))
        · repeat (first | refine l_val rfl rfl (by first | exact v_add rfl rfl (by omega) (by omega) | exact pureEval_ok rfl | exact v_load rfl (by repeat (first | exact List.Mem.head _ | apply List.Mem.tail)) rfl (by rfl) | exact v_load_ext0 rfl (by assumption) rfl (by rfl) | exact v_index rfl rfl rfl rfl (by omega) (by omega) (by with_reducible first | exact idx4 _ _ _  ) ) ?_ | refine l_nil ?_ | refine c_region ?_ | refine c_seq ?_ | refine x_then ?_ | refine r_alloc rfl rfl rfl (by first | exact aggL ) (fun _ => ?_) | refine r_store rfl rfl rfl rfl rfl rfl rfl (by repeat (first | exact Upd.head | apply Upd.tail)) (by rfl) ?_ | refine c_dec_t rfl (by first | omega ) ?_ | refine c_dec_f rfl (by first | omega | exact fun h => h rfl ) ?_ | refine c_block ?_ | refine c_skip ?_ | refine x_block ?_ | refine l_dec_f rfl rfl rfl rfl rfl (by first | omega ) ?_ | refine c_reads rfl (by decide +kernel) ?_ | refine q_val rfl rfl (by first | exact v_sub rfl rfl (by omega) (by omega) | exact pureEval_ok rfl | exact v_load rfl (by repeat (first | exact List.Mem.head _ | apply List.Mem.tail)) rfl (by rfl) ) ?_ | refine q_nil ?_ | refine q_skip rfl rfl ?_ | refine q_dec_t rfl rfl rfl rfl (by first | omega ) ?_ | refine q_not_f rfl rfl rfl rfl (by first | omega ) ?_ | (refine q_call rfl rfl rfl (fun W hW => within_calls _ _ _ W) ?_) )
          exact x_back (0 + 1) ⟨hlt, by rw [hlast]; omega, i4⟩ (by omega) (by repeat (first | exact EnvSub.nil | refine EnvSub.cons rfl (by first | rfl | (congr 1; done) | (exact congrArg (Value.int _) (by omega)) | (simp; done)) ?_)) (by repeat (first | exact MSub.nil | refine MSub.keep (by first | rfl | assumption) ?_ | refine MSub.drop ?_ | exact MSub.refl _))
      · obtain ⟨u, hub, hx⟩ := hx h0
        unfold psE at hx
        rcases (show t.kind = 1 ∨ t.kind = 2 by omega) with hk | hk
        · repeat (first | refine l_val rfl rfl (by first | exact v_add rfl rfl (by omega) (by omega) | exact pureEval_ok rfl | exact v_load rfl (by repeat (first | exact List.Mem.head _ | apply List.Mem.tail)) rfl (by rfl) | exact v_load_ext0 rfl (by assumption) rfl (by rfl) | exact v_index rfl rfl rfl rfl (by omega) (by omega) (by with_reducible first | exact idx4 _ _ _  ) ) ?_ | refine l_nil ?_ | refine c_region ?_ | refine c_seq ?_ | refine x_then ?_ | refine r_alloc rfl rfl rfl (by first | exact aggL ) (fun _ => ?_) | refine r_store rfl rfl rfl rfl rfl rfl rfl (by repeat (first | exact Upd.head | apply Upd.tail)) (by rfl) ?_ | refine c_false rfl ?_ | refine c_dec_t rfl (by first | omega ) ?_ | refine c_dec_f rfl (by first | omega | exact fun h => h rfl ) ?_ | refine c_block ?_ | refine c_skip ?_ | refine x_block ?_ | refine l_dec_f rfl rfl rfl rfl rfl (by first | omega ) ?_ | refine c_reads rfl (by decide +kernel) ?_ | refine q_val rfl rfl (by first | exact v_sub rfl rfl (by omega) (by omega) | exact pureEval_ok rfl | exact v_load rfl (by repeat (first | exact List.Mem.head _ | apply List.Mem.tail)) rfl (by rfl) | exact v_load_ext0 rfl (by assumption) rfl (by rfl) | exact v_index rfl rfl rfl rfl (by omega) (by omega) (by with_reducible first | exact idx8 _ _ _  ) ) ?_ | refine q_nil ?_ | refine q_skip rfl rfl ?_ | refine q_dec_t rfl rfl rfl rfl (by first | omega ) ?_ | refine q_dec_f rfl rfl rfl rfl (by first | omega | exact fun h => h rfl ) ?_ | refine q_not_f rfl rfl rfl rfl (by first | omega ) ?_ | (refine q_call rfl rfl rfl (fun W hW => within_calls _ _ _ W) ?_) )
          exact x_back (k + 1) ⟨hlt, by rw [hlast]; omega, i4⟩ (by omega) (by repeat (first | exact EnvSub.nil | refine EnvSub.cons rfl (by first | rfl | (congr 1; done) | (exact congrArg (Value.int _) (by omega)) | (simp; done)) ?_)) (by repeat (first | exact MSub.nil | refine MSub.keep (by first | rfl | assumption) ?_ | refine MSub.drop ?_ | exact MSub.refl _))
        · repeat (first | refine l_val rfl rfl (by first | exact v_add rfl rfl (by omega) (by omega) | exact pureEval_ok rfl | exact v_load rfl (by repeat (first | exact List.Mem.head _ | apply List.Mem.tail)) rfl (by rfl) | exact v_load_ext0 rfl (by assumption) rfl (by rfl) | exact v_index rfl rfl rfl rfl (by omega) (by omega) (by with_reducible first | exact idx4 _ _ _  ) ) ?_ | refine l_nil ?_ | refine c_region ?_ | refine c_seq ?_ | refine x_then ?_ | refine r_alloc rfl rfl rfl (by first | exact aggL ) (fun _ => ?_) | refine r_store rfl rfl rfl rfl rfl rfl rfl (by repeat (first | exact Upd.head | apply Upd.tail)) (by rfl) ?_ | refine c_dec_t rfl (by first | omega ) ?_ | refine c_dec_f rfl (by first | omega | exact fun h => h rfl ) ?_ | refine c_block ?_ | refine c_skip ?_ | refine x_block ?_ | refine l_dec_f rfl rfl rfl rfl rfl (by first | omega ) ?_ | refine c_reads rfl (by decide +kernel) ?_ | refine q_val rfl rfl (by first | exact v_sub rfl rfl (by omega) (by omega) | exact pureEval_ok rfl | exact v_load rfl (by repeat (first | exact List.Mem.head _ | apply List.Mem.tail)) rfl (by rfl) | exact v_load_ext0 rfl (by assumption) rfl (by rfl) | exact v_index rfl rfl rfl rfl (by omega) (by omega) (by with_reducible first | exact idx8 _ _ _  ) ) ?_ | refine q_nil ?_ | refine q_dec_t rfl rfl rfl rfl (by first | omega ) ?_ | refine q_dec_f rfl rfl rfl rfl (by first | omega | exact fun h => h rfl ) ?_ | refine q_not_f rfl rfl rfl rfl (by first | omega ) ?_ | (refine q_call rfl rfl rfl (fun W hW => within_calls _ _ _ W) ?_) )
          exact x_back (k + 1) ⟨hlt, by rw [hlast]; omega, i4⟩ (by omega) (by repeat (first | exact EnvSub.nil | refine EnvSub.cons rfl (by first | rfl | (congr 1; done) | (exact congrArg (Value.int _) (by omega)) | (simp; done)) ?_)) (by repeat (first | exact MSub.nil | refine MSub.keep (by first | rfl | assumption) ?_ | refine MSub.drop ?_ | exact MSub.refl _))
    · rw [ascP_no hg] at i4
      rcases Nat.eq_zero_or_pos k with h0 | h0
      · subst h0
        clear hx
        have hl : last = -1 := hl.symm
        repeat' (first | refine l_val rfl rfl (by first | exact pureEval_ok rfl | exact v_load rfl (by repeat (first | exact List.Mem.head _ | apply List.Mem.tail)) rfl (by rfl) | exact v_load_ext0 rfl (by assumption) rfl (by rfl) | exact v_index rfl rfl rfl rfl (by omega) (by omega) (by with_reducible first | exact idx4 _ _ _  ) ) ?_ | refine l_nil ?_ | refine c_region ?_ | refine c_seq ?_ | refine x_then ?_ | refine l_skip rfl rfl ?_ | refine r_alloc rfl rfl rfl (by first | exact aggL ) (fun _ => ?_) | refine r_store rfl rfl rfl rfl rfl rfl rfl (by repeat (first | exact Upd.head | apply Upd.tail)) (by rfl) ?_ | refine c_true rfl ?_ | refine c_false rfl ?_ | refine c_dec_t rfl (by first | omega ) ?_ | refine c_block ?_ | refine c_skip ?_ | refine c_ret ?_ | refine x_then_ret ?_ | refine x_block_ret ?_ | refine c_reads rfl (by decide +kernel) ?_ | refine q_val rfl rfl (by first | exact v_sub rfl rfl (by omega) (by omega) | exact pureEval_ok rfl | exact v_load rfl (by repeat (first | exact List.Mem.head _ | apply List.Mem.tail)) rfl (by rfl) ) ?_ | refine q_nil ?_ | refine q_skip rfl rfl ?_ | (refine q_call rfl rfl rfl (fun W hW => within_calls _ _ _ W) ?_) | refine l_dec rfl rfl rfl rfl rfl (fun _ => ?_) (fun _ => ?_) | refine c_dec rfl (fun _ => ?_) (fun _ => ?_) | refine q_dec rfl rfl rfl rfl (fun _ => ?_) (fun _ => ?_) | refine q_notS rfl rfl rfl rfl (fun _ => ?_) (fun _ => ?_) )
        all_goals
          exact x_ret rfl rfl (by repeat (first | exact Res.nil | (apply Res.tmp; rfl) | (apply Res.cell; rfl; exact (by repeat (first | exact List.Mem.head _ | apply List.Mem.tail)); rfl; rfl))) rfl (fun W hW => ⟨by rw [i4], hW.below⟩)
      · obtain ⟨u, hub, hx⟩ := hx h0
        unfold psE at hx
        repeat' (first | refine l_val rfl rfl (by first | exact pureEval_ok rfl | exact v_load rfl (by repeat (first | exact List.Mem.head _ | apply List.Mem.tail)) rfl (by rfl) | exact v_load_ext0 rfl (by assumption) rfl (by rfl) | exact v_index rfl rfl rfl rfl (by omega) (by omega) (by with_reducible first | exact idx4 _ _ _  ) ) ?_ | refine l_nil ?_ | refine c_region ?_ | refine c_seq ?_ | refine x_then ?_ | refine l_skip rfl rfl ?_ | refine r_alloc rfl rfl rfl (by first | exact aggL ) (fun _ => ?_) | refine r_store rfl rfl rfl rfl rfl rfl rfl (by repeat (first | exact Upd.head | apply Upd.tail)) (by rfl) ?_ | refine c_true rfl ?_ | refine c_false rfl ?_ | refine c_dec_t rfl (by first | omega ) ?_ | refine c_block ?_ | refine c_skip ?_ | refine c_ret ?_ | refine x_then_ret ?_ | refine x_block_ret ?_ | refine c_reads rfl (by decide +kernel) ?_ | refine q_val rfl rfl (by first | exact v_sub rfl rfl (by omega) (by omega) | exact pureEval_ok rfl | exact v_load rfl (by repeat (first | exact List.Mem.head _ | apply List.Mem.tail)) rfl (by rfl) | exact v_load_ext0 rfl (by assumption) rfl (by rfl) | exact v_index rfl rfl rfl rfl (by omega) (by omega) (by with_reducible first | exact idx8 _ _ _  ) ) ?_ | refine q_nil ?_ | refine q_skip rfl rfl ?_ | refine q_dec_t rfl rfl rfl rfl (by first | omega ) ?_ | (refine q_call rfl rfl rfl (fun W hW => within_calls _ _ _ W) ?_) | refine l_dec rfl rfl rfl rfl rfl (fun _ => ?_) (fun _ => ?_) | refine c_dec rfl (fun _ => ?_) (fun _ => ?_) | refine q_dec rfl rfl rfl rfl (fun _ => ?_) (fun _ => ?_) | refine q_notS rfl rfl rfl rfl (fun _ => ?_) (fun _ => ?_) )
        all_goals
          exact x_ret rfl rfl (by repeat (first | exact Res.nil | (apply Res.tmp; rfl) | (apply Res.cell; rfl; exact (by repeat (first | exact List.Mem.head _ | apply List.Mem.tail)); rfl; rfl))) rfl (fun W hW => ⟨by rw [i4], hW.below⟩)
  have hk : k = ps.length := by omega
  subst hk
  have hs : ascP (-1) n ps = true := by rw [i4, List.drop_length]; rfl
  repeat (first | refine l_val rfl rfl (by first | exact pureEval_ok rfl | exact v_load rfl (by repeat (first | exact List.Mem.head _ | apply List.Mem.tail)) rfl (by rfl) ) ?_ | refine l_nil ?_ | refine c_region ?_ | refine c_seq ?_ | refine x_then ?_ | refine c_dec_f rfl (by first | omega ) ?_ | refine c_ret ?_ | refine c_exit ?_ | refine x_then_exit ?_ | refine x_block_same ?_ )
  exact x_ret rfl rfl (by repeat (first | exact Res.nil | (apply Res.tmp; rfl) | (apply Res.cell; rfl; exact (by repeat (first | exact List.Mem.head _ | apply List.Mem.tail)); rfl; rfl))) rfl (fun W hW => ⟨by rw [hs], hW.below⟩)
end R13
end Go.Proofs
