/- Clocks: Check, in the specification. -/
import Derived.Test.YtnmbglemgkopaaaTpDm
set_option linter.unusedSectionVars false
set_option linter.unusedVariables false
set_option linter.unusedSimpArgs false
namespace Go.Proofs
open Go.RowKit Go.Kin Go.Kin.Tm
namespace R13
set_option maxHeartbeats 4000000
/-- the bar of the element ahead of a place -/
def lastT (ts : List Tp) : Nat → Int
  | 0 => -1
  | k + 1 => (ts.getD k default).bar
def lastP (ps : List Ps) : Nat → Int
  | 0 => -1
  | k + 1 => (ps.getD k default).bar

set_option maxRecDepth 100000 in
set_option maxHeartbeats 4000000 in
theorem spans_calls (c : Clk) (w : World) (hl3 : c.sp.length ≤ 5000) (hA : c.In w) :
    Calls Try.prog 66 ⟨[.agg ⟨c.v⟩]⟩ w fun e w' => e = .returned (.bool (c.sp.all (okSp c.n))) ∧ Below w.heap.size w w' := by
  obtain ⟨n, ts, ps, sp, A, B, C, ca, cb, cc⟩ := c
  dsimp only [Clk.v] at *
  refine fun_enter Try.func66 rfl Try.ntmps66 rfl rfl (satW_nil w) ?_
  repeat (first | refine l_val rfl rfl (by first | exact pureEval_ok rfl  | fail) ?_ | refine l_nil ?_ | refine c_region ?_ | refine c_seq ?_ | refine x_then ?_ | refine r_box rfl rfl rfl rfl (fun _ => ?_) | refine c_block ?_  | fail)
  rename_i b1
  refine c_loop (ι := Nat) (fun k => k ≤ sp.length ∧ sp.all (okSp n) = (sp.drop k).all (okSp n)) (fun k => [(1, .pointer (some ⟨b1, 0, none⟩)), (2, .bool false), (3, .int .i64 k)]) (fun _ => [(b1, .cells ⟨[.int .i64 n, .slice A ts.length ca, .slice B ps.length cb, .slice C sp.length cc]⟩ 28 (0, 0))]) (fun k => sp.length - k) 0 ⟨by omega, rfl⟩ (by repeat (first | exact EnvSub.nil | refine EnvSub.cons rfl (by first | rfl | (congr 1; done) | (exact congrArg (Value.int _) (by omega)) | (simp; done)) ?_)) (by repeat (first | exact MSub.nil | refine MSub.keep (by first | rfl | assumption) ?_ | refine MSub.drop ?_ | exact MSub.refl _)) ?_
  rintro k ⟨i1, i4⟩
  by_cases hlt : k < sp.length
  · obtain ⟨t, ht⟩ : ∃ t, sp[k]? = some t := ⟨_, List.getElem?_eq_getElem hlt⟩
    obtain ⟨b', o', rfl, hc⟩ := ext_at hA.c ht
    have he := ext_of hc
    unfold spE at he
    rw [drop_cons ht, List.all_cons] at i4
    by_cases hg : (0 ≤ t.f ∧ t.f ≤ n) ∧ (0 ≤ t.t ∧ t.t ≤ n) ∧ t.f ≠ t.t ∧ (-1099511627776 ≤ t.lo ∧ t.lo ≤ t.hi) ∧ t.hi ≤ 1099511627776
    · rw [okSp_iff.2 hg, Bool.true_and] at i4
      obtain ⟨⟨g1, g2⟩, ⟨g3, g4⟩, g5, ⟨g6, g7⟩, g8⟩ := hg
      repeat (first | refine l_val rfl rfl (by first | exact v_add rfl rfl (by omega) (by omega) | exact pureEval_ok rfl | exact v_load rfl (by repeat (first | exact List.Mem.head _ | apply List.Mem.tail)) rfl (by rfl) | exact v_load_ext0 rfl (by assumption) rfl (by rfl) | exact v_index rfl rfl rfl rfl (by omega) (by omega) (by with_reducible first | exact idx4 _ _ _   | fail)  | fail) ?_ | refine l_nil ?_ | refine c_region ?_ | refine c_seq ?_ | refine x_then ?_ | refine r_alloc rfl rfl rfl (by first | exact aggL  | fail) (fun _ => ?_) | refine r_store rfl rfl rfl rfl rfl rfl rfl (by repeat (first | exact Upd.head | apply Upd.tail)) (by rfl) ?_ | refine c_dec_t rfl (by first | omega  | fail) ?_ | refine c_dec_f rfl (by first | omega  | fail) ?_ | refine c_block ?_ | refine c_skip ?_ | refine x_block ?_ | refine l_dec_f rfl rfl rfl rfl rfl (by first | omega  | fail) ?_ | refine l_not_f rfl rfl rfl rfl (by first | omega  | fail) ?_ | (refine r_call rfl rfl rfl (fun W hW => within_calls _ _ _ W) ?_)  | fail)
      exact x_back (k + 1) ⟨hlt, i4⟩ (by omega) (by repeat (first | exact EnvSub.nil | refine EnvSub.cons rfl (by first | rfl | (congr 1; done) | (exact congrArg (Value.int _) (by omega)) | (simp; done)) ?_)) (by repeat (first | exact MSub.nil | refine MSub.keep (by first | rfl | assumption) ?_ | refine MSub.drop ?_ | exact MSub.refl _))
    · rw [Bool.eq_false_iff.2 fun h => hg (okSp_iff.1 h), Bool.false_and] at i4
      repeat' (first | refine l_val rfl rfl (by first | exact pureEval_ok rfl | exact v_load rfl (by repeat (first | exact List.Mem.head _ | apply List.Mem.tail)) rfl (by rfl) | exact v_load_ext0 rfl (by assumption) rfl (by rfl) | exact v_index rfl rfl rfl rfl (by omega) (by omega) (by with_reducible first | exact idx4 _ _ _   | fail)  | fail) ?_ | refine l_nil ?_ | refine c_region ?_ | refine c_seq ?_ | refine x_then ?_ | refine l_skip rfl rfl ?_ | refine r_alloc rfl rfl rfl (by first | exact aggL  | fail) (fun _ => ?_) | refine r_store rfl rfl rfl rfl rfl rfl rfl (by repeat (first | exact Upd.head | apply Upd.tail)) (by rfl) ?_ | refine c_true rfl ?_ | refine c_dec_t rfl (by first | omega  | fail) ?_ | refine c_block ?_ | refine c_skip ?_ | refine c_ret ?_ | refine x_then_ret ?_ | refine x_block_ret ?_ | (refine r_call rfl rfl rfl (fun W hW => within_calls _ _ _ W) ?_) | refine l_dec rfl rfl rfl rfl rfl (fun _ => ?_) (fun _ => ?_) | refine c_dec rfl (fun _ => ?_) (fun _ => ?_) | refine l_notS rfl rfl rfl rfl (fun _ => ?_) (fun _ => ?_)  | fail)
      all_goals
        exact x_ret rfl rfl (by repeat (first | exact Res.nil | (apply Res.tmp; rfl) | (apply Res.cell; rfl; exact (by repeat (first | exact List.Mem.head _ | apply List.Mem.tail)); rfl; rfl))) rfl (fun W hW => ⟨by rw [i4], hW.below⟩)
  have hk : k = sp.length := by omega
  subst hk
  have hs : sp.all (okSp n) = true := by rw [i4, List.drop_length]; rfl
  repeat (first | refine l_val rfl rfl (by first | exact pureEval_ok rfl | exact v_load rfl (by repeat (first | exact List.Mem.head _ | apply List.Mem.tail)) rfl (by rfl)  | fail) ?_ | refine l_nil ?_ | refine c_region ?_ | refine c_seq ?_ | refine x_then ?_ | refine c_dec_f rfl (by first | omega  | fail) ?_ | refine c_ret ?_ | refine c_exit ?_ | refine x_then_exit ?_ | refine x_block_same ?_  | fail)
  exact x_ret rfl rfl (by repeat (first | exact Res.nil | (apply Res.tmp; rfl) | (apply Res.cell; rfl; exact (by repeat (first | exact List.Mem.head _ | apply List.Mem.tail)); rfl; rfl))) rfl (fun W hW => ⟨by rw [hs], hW.below⟩)

set_option maxRecDepth 100000 in
set_option maxHeartbeats 4000000 in
theorem pauses_calls (c : Clk) (w : World) (hn : 1 ≤ c.n ∧ c.n ≤ 4096) (hl3 : c.ps.length ≤ 5000) (hA : c.In w) :
    Calls Try.prog 65 ⟨[.agg ⟨c.v⟩]⟩ w fun e w' => e = .returned (.bool (ascP (-1) c.n c.ps)) ∧ Below w.heap.size w w' := by
  obtain ⟨n, ts, ps, sp, A, B, C, ca, cb, cc⟩ := c
  dsimp only [Clk.v] at *
  obtain ⟨hn1, hn2⟩ := hn
  refine fun_enter Try.func65 rfl Try.ntmps65 rfl rfl (satW_nil w) ?_
  repeat (first | refine l_val rfl rfl (by first | exact pureEval_ok rfl  | fail) ?_ | refine l_nil ?_ | refine c_region ?_ | refine c_seq ?_ | refine x_then ?_ | refine r_box rfl rfl rfl rfl (fun _ => ?_) | refine c_block ?_  | fail)
  rename_i b1
  refine c_loop (ι := Nat) (fun k => k ≤ ps.length ∧ -1 ≤ lastP ps k ∧ ascP (-1) n ps = ascP (lastP ps k) n (ps.drop k)) (fun k => [(1, .pointer (some ⟨b1, 0, none⟩)), (2, .bool false), (3, .int .i64 k)]) (fun _ => [(b1, .cells ⟨[.int .i64 n, .slice A ts.length ca, .slice B ps.length cb, .slice C sp.length cc]⟩ 28 (0, 0))]) (fun k => ps.length - k) 0 ⟨by omega, Int.le_refl (-1), rfl⟩ (by repeat (first | exact EnvSub.nil | refine EnvSub.cons rfl (by first | rfl | (congr 1; done) | (exact congrArg (Value.int _) (by omega)) | (simp; done)) ?_)) (by repeat (first | exact MSub.nil | refine MSub.keep (by first | rfl | assumption) ?_ | refine MSub.drop ?_ | exact MSub.refl _)) ?_
  rintro k ⟨i1, i2, i4⟩
  by_cases hlt : k < ps.length
  · obtain ⟨t, ht⟩ : ∃ t, ps[k]? = some t := ⟨_, List.getElem?_eq_getElem hlt⟩
    obtain ⟨b', o', rfl, hc⟩ := ext_at hA.b ht
    have he := ext_of hc
    unfold psE at he
    rw [drop_cons ht] at i4
    have hlast : lastP ps (k + 1) = t.bar := by show (ps.getD k default).bar = t.bar; rw [getD_of ht]
    obtain ⟨last, hl⟩ : ∃ x, lastP ps k = x := ⟨_, rfl⟩
    rw [hl] at i4 i2
    have hx : 0 < k → ∃ u : Ps, u.bar = last ∧ Ext w (base w) b' (o' + ((k : Int) - 1).toNat * 4) (psE u) := fun h0 => by
      obtain ⟨u, hu⟩ : ∃ u, ps[k - 1]? = some u := ⟨_, List.getElem?_eq_getElem (by omega)⟩
      obtain ⟨b2, o2, h', hc'⟩ := ext_at hA.b hu
      cases h'
      refine ⟨u, ?_, by rw [show ((k : Int) - 1).toNat = k - 1 by omega]; exact ext_of hc'⟩
      rw [← hl, show k = k - 1 + 1 by omega]; show u.bar = (ps.getD (k - 1) default).bar; rw [getD_of hu]
    by_cases hg : (last + 1 ≤ t.bar ∧ t.bar ≤ n - 2) ∧ (1 ≤ t.kind ∧ t.kind ≤ 2) ∧ (0 ≤ t.lo ∧ t.lo ≤ t.hi) ∧ t.hi ≤ 1048576
    · rw [ascP_yes hg.1 hg.2.1 hg.2.2.1 hg.2.2.2, ← hlast] at i4
      obtain ⟨⟨g1, g2⟩, ⟨g3, g4⟩, ⟨g5, g6⟩, g7⟩ := hg
      rcases Nat.eq_zero_or_pos k with h0 | h0
      · subst h0
        clear hx
        have hl : last = -1 := hl.symm
        rcases (show t.kind = 1 ∨ t.kind = 2 by omega) with hk | hk
        · repeat (first | refine l_val rfl rfl (by first | exact v_add rfl rfl (by omega) (by omega) | exact pureEval_ok rfl | exact v_load rfl (by repeat (first | exact List.Mem.head _ | apply List.Mem.tail)) rfl (by rfl) | exact v_load_ext0 rfl (by assumption) rfl (by rfl) | exact v_index rfl rfl rfl rfl (by omega) (by omega) (by with_reducible first | exact idx4 _ _ _   | fail)  | fail) ?_ | refine l_nil ?_ | refine c_region ?_ | refine c_seq ?_ | refine x_then ?_ | refine r_alloc rfl rfl rfl (by first | exact aggL  | fail) (fun _ => ?_) | refine r_store rfl rfl rfl rfl rfl rfl rfl (by repeat (first | exact Upd.head | apply Upd.tail)) (by rfl) ?_ | refine c_false rfl ?_ | refine c_dec_t rfl (by first | omega  | fail) ?_ | refine c_dec_f rfl (by first | omega | exact fun h => h rfl  | fail) ?_ | refine c_block ?_ | refine c_skip ?_ | refine x_block ?_ | refine l_dec_f rfl rfl rfl rfl rfl (by first | omega  | fail) ?_ | refine c_reads rfl (by decide +kernel) ?_ | refine q_val rfl rfl (by first | exact v_sub rfl rfl (by omega) (by omega) | exact pureEval_ok rfl | exact v_load rfl (by repeat (first | exact List.Mem.head _ | apply List.Mem.tail)) rfl (by rfl)  | fail) ?_ | refine q_nil ?_ | refine q_skip rfl rfl ?_ | refine q_dec_f rfl rfl rfl rfl (by first | omega | exact fun h => h rfl  | fail) ?_ | refine q_not_f rfl rfl rfl rfl (by first | omega  | fail) ?_ | (refine q_call rfl rfl rfl (fun W hW => within_calls _ _ _ W) ?_)  | fail)
          exact x_back (0 + 1) ⟨hlt, by rw [hlast]; omega, i4⟩ (by omega) (by repeat (first | exact EnvSub.nil | refine EnvSub.cons rfl (by first | rfl | (congr 1; done) | (exact congrArg (Value.int _) (by omega)) | (simp; done)) ?_)) (by repeat (first | exact MSub.nil | refine MSub.keep (by first | rfl | assumption) ?_ | refine MSub.drop ?_ | exact MSub.refl _))
        · repeat (first | refine l_val rfl rfl (by first | exact v_add rfl rfl (by omega) (by omega) | exact pureEval_ok rfl | exact v_load rfl (by repeat (first | exact List.Mem.head _ | apply List.Mem.tail)) rfl (by rfl) | exact v_load_ext0 rfl (by assumption) rfl (by rfl) | exact v_index rfl rfl rfl rfl (by omega) (by omega) (by with_reducible first | exact idx4 _ _ _   | fail)  | fail) ?_ | refine l_nil ?_ | refine c_region ?_ | refine c_seq ?_ | refine x_then ?_ | refine r_alloc rfl rfl rfl (by first | exact aggL  | fail) (fun _ => ?_) | refine r_store rfl rfl rfl rfl rfl rfl rfl (by repeat (first | exact Upd.head | apply Upd.tail)) (by rfl) ?_ | refine c_dec_t rfl (by first | omega  | fail) ?_ | refine c_dec_f rfl (by first | omega | exact fun h => h rfl  | fail) ?_ | refine c_block ?_ | refine c_skip ?_ | refine x_block ?_ | refine l_dec_f rfl rfl rfl rfl rfl (by first | omega  | fail) ?_ | refine c_reads rfl (by decide +kernel) ?_ | refine q_val rfl rfl (by first | exact v_sub rfl rfl (by omega) (by omega) | exact pureEval_ok rfl | exact v_load rfl (by repeat (first | exact List.Mem.head _ | apply List.Mem.tail)) rfl (by rfl)  | fail) ?_ | refine q_nil ?_ | refine q_skip rfl rfl ?_ | refine q_dec_t rfl rfl rfl rfl (by first | omega  | fail) ?_ | refine q_not_f rfl rfl rfl rfl (by first | omega  | fail) ?_ | (refine q_call rfl rfl rfl (fun W hW => within_calls _ _ _ W) ?_)  | fail)
          exact x_back (0 + 1) ⟨hlt, by rw [hlast]; omega, i4⟩ (by omega) (by repeat (first | exact EnvSub.nil | refine EnvSub.cons rfl (by first | rfl | (congr 1; done) | (exact congrArg (Value.int _) (by omega)) | (simp; done)) ?_)) (by repeat (first | exact MSub.nil | refine MSub.keep (by first | rfl | assumption) ?_ | refine MSub.drop ?_ | exact MSub.refl _))
      · obtain ⟨u, hub, hx⟩ := hx h0
        unfold psE at hx
        rcases (show t.kind = 1 ∨ t.kind = 2 by omega) with hk | hk
        · repeat (first | refine l_val rfl rfl (by first | exact v_add rfl rfl (by omega) (by omega) | exact pureEval_ok rfl | exact v_load rfl (by repeat (first | exact List.Mem.head _ | apply List.Mem.tail)) rfl (by rfl) | exact v_load_ext0 rfl (by assumption) rfl (by rfl) | exact v_index rfl rfl rfl rfl (by omega) (by omega) (by with_reducible first | exact idx4 _ _ _   | fail)  | fail) ?_ | refine l_nil ?_ | refine c_region ?_ | refine c_seq ?_ | refine x_then ?_ | refine r_alloc rfl rfl rfl (by first | exact aggL  | fail) (fun _ => ?_) | refine r_store rfl rfl rfl rfl rfl rfl rfl (by repeat (first | exact Upd.head | apply Upd.tail)) (by rfl) ?_ | refine c_false rfl ?_ | refine c_dec_t rfl (by first | omega  | fail) ?_ | refine c_dec_f rfl (by first | omega | exact fun h => h rfl  | fail) ?_ | refine c_block ?_ | refine c_skip ?_ | refine x_block ?_ | refine l_dec_f rfl rfl rfl rfl rfl (by first | omega  | fail) ?_ | refine c_reads rfl (by decide +kernel) ?_ | refine q_val rfl rfl (by first | exact v_sub rfl rfl (by omega) (by omega) | exact pureEval_ok rfl | exact v_load rfl (by repeat (first | exact List.Mem.head _ | apply List.Mem.tail)) rfl (by rfl) | exact v_load_ext0 rfl (by assumption) rfl (by rfl) | exact v_index rfl rfl rfl rfl (by omega) (by omega) (by with_reducible first | exact idx8 _ _ _   | fail)  | fail) ?_ | refine q_nil ?_ | refine q_skip rfl rfl ?_ | refine q_dec_t rfl rfl rfl rfl (by first | omega  | fail) ?_ | refine q_dec_f rfl rfl rfl rfl (by first | omega | exact fun h => h rfl  | fail) ?_ | refine q_not_f rfl rfl rfl rfl (by first | omega  | fail) ?_ | (refine q_call rfl rfl rfl (fun W hW => within_calls _ _ _ W) ?_)  | fail)
          exact x_back (k + 1) ⟨hlt, by rw [hlast]; omega, i4⟩ (by omega) (by repeat (first | exact EnvSub.nil | refine EnvSub.cons rfl (by first | rfl | (congr 1; done) | (exact congrArg (Value.int _) (by omega)) | (simp; done)) ?_)) (by repeat (first | exact MSub.nil | refine MSub.keep (by first | rfl | assumption) ?_ | refine MSub.drop ?_ | exact MSub.refl _))
        · repeat (first | refine l_val rfl rfl (by first | exact v_add rfl rfl (by omega) (by omega) | exact pureEval_ok rfl | exact v_load rfl (by repeat (first | exact List.Mem.head _ | apply List.Mem.tail)) rfl (by rfl) | exact v_load_ext0 rfl (by assumption) rfl (by rfl) | exact v_index rfl rfl rfl rfl (by omega) (by omega) (by with_reducible first | exact idx4 _ _ _   | fail)  | fail) ?_ | refine l_nil ?_ | refine c_region ?_ | refine c_seq ?_ | refine x_then ?_ | refine r_alloc rfl rfl rfl (by first | exact aggL  | fail) (fun _ => ?_) | refine r_store rfl rfl rfl rfl rfl rfl rfl (by repeat (first | exact Upd.head | apply Upd.tail)) (by rfl) ?_ | refine c_dec_t rfl (by first | omega  | fail) ?_ | refine c_dec_f rfl (by first | omega | exact fun h => h rfl  | fail) ?_ | refine c_block ?_ | refine c_skip ?_ | refine x_block ?_ | refine l_dec_f rfl rfl rfl rfl rfl (by first | omega  | fail) ?_ | refine c_reads rfl (by decide +kernel) ?_ | refine q_val rfl rfl (by first | exact v_sub rfl rfl (by omega) (by omega) | exact pureEval_ok rfl | exact v_load rfl (by repeat (first | exact List.Mem.head _ | apply List.Mem.tail)) rfl (by rfl) | exact v_load_ext0 rfl (by assumption) rfl (by rfl) | exact v_index rfl rfl rfl rfl (by omega) (by omega) (by with_reducible first | exact idx8 _ _ _   | fail)  | fail) ?_ | refine q_nil ?_ | refine q_dec_t rfl rfl rfl rfl (by first | omega  | fail) ?_ | refine q_dec_f rfl rfl rfl rfl (by first | omega | exact fun h => h rfl  | fail) ?_ | refine q_not_f rfl rfl rfl rfl (by first | omega  | fail) ?_ | (refine q_call rfl rfl rfl (fun W hW => within_calls _ _ _ W) ?_)  | fail)
          exact x_back (k + 1) ⟨hlt, by rw [hlast]; omega, i4⟩ (by omega) (by repeat (first | exact EnvSub.nil | refine EnvSub.cons rfl (by first | rfl | (congr 1; done) | (exact congrArg (Value.int _) (by omega)) | (simp; done)) ?_)) (by repeat (first | exact MSub.nil | refine MSub.keep (by first | rfl | assumption) ?_ | refine MSub.drop ?_ | exact MSub.refl _))
    · rw [ascP_no hg] at i4
      rcases Nat.eq_zero_or_pos k with h0 | h0
      · subst h0
        clear hx
        have hl : last = -1 := hl.symm
        repeat' (first | refine l_val rfl rfl (by first | exact pureEval_ok rfl | exact v_load rfl (by repeat (first | exact List.Mem.head _ | apply List.Mem.tail)) rfl (by rfl) | exact v_load_ext0 rfl (by assumption) rfl (by rfl) | exact v_index rfl rfl rfl rfl (by omega) (by omega) (by with_reducible first | exact idx4 _ _ _   | fail)  | fail) ?_ | refine l_nil ?_ | refine c_region ?_ | refine c_seq ?_ | refine x_then ?_ | refine l_skip rfl rfl ?_ | refine r_alloc rfl rfl rfl (by first | exact aggL  | fail) (fun _ => ?_) | refine r_store rfl rfl rfl rfl rfl rfl rfl (by repeat (first | exact Upd.head | apply Upd.tail)) (by rfl) ?_ | refine c_true rfl ?_ | refine c_false rfl ?_ | refine c_dec_t rfl (by first | omega  | fail) ?_ | refine c_block ?_ | refine c_skip ?_ | refine c_ret ?_ | refine x_then_ret ?_ | refine x_block_ret ?_ | refine c_reads rfl (by decide +kernel) ?_ | refine q_val rfl rfl (by first | exact v_sub rfl rfl (by omega) (by omega) | exact pureEval_ok rfl | exact v_load rfl (by repeat (first | exact List.Mem.head _ | apply List.Mem.tail)) rfl (by rfl)  | fail) ?_ | refine q_nil ?_ | refine q_skip rfl rfl ?_ | (refine q_call rfl rfl rfl (fun W hW => within_calls _ _ _ W) ?_) | refine l_dec rfl rfl rfl rfl rfl (fun _ => ?_) (fun _ => ?_) | refine c_dec rfl (fun _ => ?_) (fun _ => ?_) | refine q_dec rfl rfl rfl rfl (fun _ => ?_) (fun _ => ?_) | refine q_notS rfl rfl rfl rfl (fun _ => ?_) (fun _ => ?_)  | fail)
        all_goals
          exact x_ret rfl rfl (by repeat (first | exact Res.nil | (apply Res.tmp; rfl) | (apply Res.cell; rfl; exact (by repeat (first | exact List.Mem.head _ | apply List.Mem.tail)); rfl; rfl))) rfl (fun W hW => ⟨by rw [i4], hW.below⟩)
      · obtain ⟨u, hub, hx⟩ := hx h0
        unfold psE at hx
        repeat' (first | refine l_val rfl rfl (by first | exact pureEval_ok rfl | exact v_load rfl (by repeat (first | exact List.Mem.head _ | apply List.Mem.tail)) rfl (by rfl) | exact v_load_ext0 rfl (by assumption) rfl (by rfl) | exact v_index rfl rfl rfl rfl (by omega) (by omega) (by with_reducible first | exact idx4 _ _ _   | fail)  | fail) ?_ | refine l_nil ?_ | refine c_region ?_ | refine c_seq ?_ | refine x_then ?_ | refine l_skip rfl rfl ?_ | refine r_alloc rfl rfl rfl (by first | exact aggL  | fail) (fun _ => ?_) | refine r_store rfl rfl rfl rfl rfl rfl rfl (by repeat (first | exact Upd.head | apply Upd.tail)) (by rfl) ?_ | refine c_true rfl ?_ | refine c_false rfl ?_ | refine c_dec_t rfl (by first | omega  | fail) ?_ | refine c_block ?_ | refine c_skip ?_ | refine c_ret ?_ | refine x_then_ret ?_ | refine x_block_ret ?_ | refine c_reads rfl (by decide +kernel) ?_ | refine q_val rfl rfl (by first | exact v_sub rfl rfl (by omega) (by omega) | exact pureEval_ok rfl | exact v_load rfl (by repeat (first | exact List.Mem.head _ | apply List.Mem.tail)) rfl (by rfl) | exact v_load_ext0 rfl (by assumption) rfl (by rfl) | exact v_index rfl rfl rfl rfl (by omega) (by omega) (by with_reducible first | exact idx8 _ _ _   | fail)  | fail) ?_ | refine q_nil ?_ | refine q_skip rfl rfl ?_ | refine q_dec_t rfl rfl rfl rfl (by first | omega  | fail) ?_ | (refine q_call rfl rfl rfl (fun W hW => within_calls _ _ _ W) ?_) | refine l_dec rfl rfl rfl rfl rfl (fun _ => ?_) (fun _ => ?_) | refine c_dec rfl (fun _ => ?_) (fun _ => ?_) | refine q_dec rfl rfl rfl rfl (fun _ => ?_) (fun _ => ?_) | refine q_notS rfl rfl rfl rfl (fun _ => ?_) (fun _ => ?_)  | fail)
        all_goals
          exact x_ret rfl rfl (by repeat (first | exact Res.nil | (apply Res.tmp; rfl) | (apply Res.cell; rfl; exact (by repeat (first | exact List.Mem.head _ | apply List.Mem.tail)); rfl; rfl))) rfl (fun W hW => ⟨by rw [i4], hW.below⟩)
  have hk : k = ps.length := by omega
  subst hk
  have hs : ascP (-1) n ps = true := by rw [i4, List.drop_length]; rfl
  repeat (first | refine l_val rfl rfl (by first | exact pureEval_ok rfl | exact v_load rfl (by repeat (first | exact List.Mem.head _ | apply List.Mem.tail)) rfl (by rfl)  | fail) ?_ | refine l_nil ?_ | refine c_region ?_ | refine c_seq ?_ | refine x_then ?_ | refine c_dec_f rfl (by first | omega  | fail) ?_ | refine c_ret ?_ | refine c_exit ?_ | refine x_then_exit ?_ | refine x_block_same ?_  | fail)
  exact x_ret rfl rfl (by repeat (first | exact Res.nil | (apply Res.tmp; rfl) | (apply Res.cell; rfl; exact (by repeat (first | exact List.Mem.head _ | apply List.Mem.tail)); rfl; rfl))) rfl (fun W hW => ⟨by rw [hs], hW.below⟩)
end R13
end Go.Proofs

set_option linter.unusedSectionVars false
set_option linter.unusedVariables false
set_option linter.unusedSimpArgs false
namespace Go.Proofs
open Go.RowKit Go.Kin Go.Kin.Tm
namespace R13
set_option maxHeartbeats 4000000
theorem okEnds_iff {ts : List Tp} {n : Int} : okEnds ts n = true ↔ ∀ i, i < ts.length → (1 ≤ tk ts (ts.getD i default).bar ∧ tk ts (ts.getD i default).bar ≤ 65536) ∧ 1 ≤ tk ts (lastOf ts n i) ∧ tk ts (lastOf ts n i) ≤ 65536 := by
  simp only [okEnds, List.all_eq_true, List.mem_range, Bool.and_eq_true, inB_iff]

set_option maxRecDepth 100000 in
set_option maxHeartbeats 40000000 in
theorem tempos_calls (c : Clk) (w : World) (hn : 1 ≤ c.n ∧ c.n ≤ 4096) (hl : c.ts.length ≤ 5000) (hA : c.In w) :
    Calls Try.prog 64 ⟨[.agg ⟨c.v⟩]⟩ w fun e w' => e = .returned (.bool (head0 c.ts && asc (-1) c.n c.ts && okBars c.ts c.n)) ∧ Below w.heap.size w w' := by
  obtain ⟨n, ts, ps, sp, A, B, C, ca, cb, cc⟩ := c
  dsimp only [Clk.v] at *
  obtain ⟨hn1, hn2⟩ := hn
  refine fun_enter Try.func64 rfl Try.ntmps64 rfl rfl (satW_nil w) ?_
  by_cases hne : 0 < ts.length
  rotate_left
  · have hv : (head0 ts && asc (-1) n ts && okBars ts n) = false := by cases ts with | nil => rfl | cons _ _ => simp at hne
    repeat (first | refine l_val rfl rfl (by first | exact pureEval_ok rfl | exact v_load rfl (by repeat (first | exact List.Mem.head _ | apply List.Mem.tail)) rfl (by rfl)  | fail) ?_ | refine l_nil ?_ | refine c_region ?_ | refine c_seq ?_ | refine x_then ?_ | refine l_skip rfl rfl ?_ | refine r_box rfl rfl rfl rfl (fun _ => ?_) | refine c_true rfl ?_ | refine c_ret ?_ | refine x_then_ret ?_ | refine l_dec_t rfl rfl rfl rfl rfl (by first | omega  | fail) ?_  | fail)
    exact x_ret rfl rfl (by repeat (first | exact Res.nil | (apply Res.tmp; rfl) | (apply Res.cell; rfl; exact (by repeat (first | exact List.Mem.head _ | apply List.Mem.tail)); rfl; rfl))) rfl (fun W hW => ⟨by rw [hv], hW.below⟩)
  obtain ⟨t0, ht0⟩ : ∃ t, ts[0]? = some t := ⟨_, List.getElem?_eq_getElem hne⟩
  obtain ⟨ba, oa, rfl, hc0⟩ := ext_at hA.a ht0
  have he0 : Ext w (base w) ba (oa + (0 : Int).toNat * 3) (tpE t0) := ext_of hc0
  unfold tpE at he0
  by_cases hz : t0.bar = 0
  rotate_left
  · have hv : (head0 ts && asc (-1) n ts && okBars ts n) = false := by
      have : head0 ts = false := by cases ts with | nil => cases ht0 | cons t l => cases ht0; exact decide_eq_false hz
      rw [this]; rfl
    repeat (first | refine l_val rfl rfl (by first | exact pureEval_ok rfl | exact v_load rfl (by repeat (first | exact List.Mem.head _ | apply List.Mem.tail)) rfl (by rfl) | exact v_load_ext0 rfl (by assumption) rfl (by rfl) | exact v_index rfl rfl rfl rfl (by omega) (by omega) (by with_reducible first | exact idx8 _ _ _   | fail)  | fail) ?_ | refine l_nil ?_ | refine c_region ?_ | refine c_seq ?_ | refine x_then ?_ | refine r_box rfl rfl rfl rfl (fun _ => ?_) | refine c_dec_t rfl (by first | omega  | fail) ?_ | refine c_ret ?_ | refine x_then_ret ?_ | refine l_dec_f rfl rfl rfl rfl rfl (by first | omega  | fail) ?_  | fail)
    exact x_ret rfl rfl (by repeat (first | exact Res.nil | (apply Res.tmp; rfl) | (apply Res.cell; rfl; exact (by repeat (first | exact List.Mem.head _ | apply List.Mem.tail)); rfl; rfl))) rfl (fun W hW => ⟨by rw [hv], hW.below⟩)
  have hh0 : head0 ts = true := by cases ts with | nil => cases ht0 | cons t l => cases ht0; exact decide_eq_true hz
  repeat (first | refine l_val rfl rfl (by first | exact pureEval_ok rfl | exact v_load rfl (by repeat (first | exact List.Mem.head _ | apply List.Mem.tail)) rfl (by rfl) | exact v_load_ext0 rfl (by assumption) rfl (by rfl) | exact v_index rfl rfl rfl rfl (by omega) (by omega) (by with_reducible first | exact idx8 _ _ _   | fail)  | fail) ?_ | refine l_nil ?_ | refine c_region ?_ | refine c_seq ?_ | refine x_then ?_ | refine r_box rfl rfl rfl rfl (fun _ => ?_) | refine c_dec_f rfl (by first | omega | exact fun h => h rfl  | fail) ?_ | refine c_block ?_ | refine c_skip ?_ | refine l_dec_f rfl rfl rfl rfl rfl (by first | omega  | fail) ?_  | fail)
  clear he0 hc0
  rename_i b1
  rw [hh0, Bool.true_and]
  refine c_loop (ι := Nat) (fun k => k ≤ ts.length ∧ asc (-1) n ts = asc (lastT ts k) n (ts.drop k)) (fun k => [(1, .pointer (some ⟨b1, 0, none⟩)), (2, .bool false), (3, .int .i64 k)]) (fun _ => [(b1, .cells ⟨[.int .i64 n, .slice (some ⟨ba, oa, none⟩) ts.length ca, .slice B ps.length cb, .slice C sp.length cc]⟩ 28 (0, 0))]) (fun k => ts.length - k) 0 ⟨by omega, rfl⟩ (by repeat (first | exact EnvSub.nil | refine EnvSub.cons rfl (by first | rfl | (congr 1; done) | (exact congrArg (Value.int _) (by omega)) | (simp; done)) ?_)) (by repeat (first | exact MSub.nil | refine MSub.keep (by first | rfl | assumption) ?_ | refine MSub.drop ?_ | exact MSub.refl _)) ?_
  rintro k ⟨i1, i4⟩
  by_cases hlt : k < ts.length
  · obtain ⟨t, ht⟩ : ∃ t, ts[k]? = some t := ⟨_, List.getElem?_eq_getElem hlt⟩
    obtain ⟨b', o', h', hc⟩ := ext_at hA.a ht
    cases h'
    have he := ext_of hc
    unfold tpE at he
    rw [drop_cons ht] at i4
    have hlast : lastT ts (k + 1) = t.bar := by show (ts.getD k default).bar = t.bar; rw [getD_of ht]
    obtain ⟨last, hl⟩ : ∃ x, lastT ts k = x := ⟨_, rfl⟩
    rw [hl] at i4
    have hx : 0 < k → ∃ u : Tp, u.bar = last ∧ Ext w (base w) ba (oa + ((k : Int) - 1).toNat * 3) (tpE u) := fun h0 => by
      obtain ⟨u, hu⟩ : ∃ u, ts[k - 1]? = some u := ⟨_, List.getElem?_eq_getElem (by omega)⟩
      obtain ⟨b2, o2, h', hc'⟩ := ext_at hA.a hu
      cases h'
      refine ⟨u, ?_, by rw [show ((k : Int) - 1).toNat = k - 1 by omega]; exact ext_of hc'⟩
      rw [← hl, show k = k - 1 + 1 by omega]; show u.bar = (ts.getD (k - 1) default).bar; rw [getD_of hu]
    have hz0 : k = 0 → t.bar = 0 ∧ last = -1 := fun h0 => by subst h0; rw [ht0] at ht; cases ht; exact ⟨hz, hl.symm⟩
    have good : (last + 1 ≤ t.bar ∧ t.bar ≤ n - 1) → (-65536 ≤ t.ticks ∧ t.ticks ≤ 65536) → (-65536 ≤ t.step ∧ t.step ≤ 65536) → asc (-1) n ts = asc (lastT ts (k + 1)) n (ts.drop (k + 1)) := fun h1 h2 h3 => by rw [i4, asc_yes h1 h2 h3, hlast]
    have bad : ¬ ((last + 1 ≤ t.bar ∧ t.bar ≤ n - 1) ∧ (-65536 ≤ t.ticks ∧ t.ticks ≤ 65536) ∧ (-65536 ≤ t.step ∧ t.step ≤ 65536)) → (asc (-1) n ts && okBars ts n) = false := fun h => by rw [i4, asc_no h]; rfl
    clear i4 hlast hl
    obtain ⟨V, hV⟩ : ∃ V, (asc (-1) n ts && okBars ts n) = V := ⟨_, rfl⟩
    rw [hV] at bad ⊢
    clear hV
    rcases Nat.eq_zero_or_pos k with h0 | h0
    · have hz0 := hz0 h0
      subst h0
      clear hx
      by_cases g1 : last + 1 ≤ t.bar
      rotate_left
      · have hv := bad fun h => g1 h.1.1
        clear bad good
        repeat (first | refine l_val rfl rfl (by first | exact pureEval_ok rfl | exact v_load rfl (by repeat (first | exact List.Mem.head _ | apply List.Mem.tail)) rfl (by rfl) | exact v_load_ext0 rfl (by assumption) rfl (by rfl) | exact v_index rfl rfl rfl rfl (by omega) (by omega) (by with_reducible first | exact idx4 _ _ _   | fail)  | fail) ?_ | refine l_nil ?_ | refine c_region ?_ | refine c_seq ?_ | refine x_then ?_ | refine r_alloc rfl rfl rfl (by first | exact aggL  | fail) (fun _ => ?_) | refine r_store rfl rfl rfl rfl rfl rfl rfl (by repeat (first | exact Upd.head | apply Upd.tail)) (by rfl) ?_ | refine c_dec_t rfl (by first | omega  | fail) ?_ | refine c_block ?_ | refine c_skip ?_ | refine c_ret ?_ | refine x_then_ret ?_ | refine x_block_ret ?_ | refine c_reads rfl (by decide +kernel) ?_ | refine q_val rfl rfl (by first | exact pureEval_ok rfl | exact v_load rfl (by repeat (first | exact List.Mem.head _ | apply List.Mem.tail)) rfl (by rfl)  | fail) ?_ | refine q_nil ?_ | refine q_skip rfl rfl ?_  | fail)
        exact x_ret rfl rfl (by repeat (first | exact Res.nil | (apply Res.tmp; rfl) | (apply Res.cell; rfl; exact (by repeat (first | exact List.Mem.head _ | apply List.Mem.tail)); rfl; rfl))) rfl (fun W hW => ⟨by rw [hv], hW.below⟩)
      by_cases g2 : t.bar ≤ n - 1
      rotate_left
      · have hv := bad fun h => g2 h.1.2
        clear bad good
        repeat (first | refine l_val rfl rfl (by first | exact pureEval_ok rfl | exact v_load rfl (by repeat (first | exact List.Mem.head _ | apply List.Mem.tail)) rfl (by rfl) | exact v_load_ext0 rfl (by assumption) rfl (by rfl) | exact v_index rfl rfl rfl rfl (by omega) (by omega) (by with_reducible first | exact idx4 _ _ _   | fail)  | fail) ?_ | refine l_nil ?_ | refine c_region ?_ | refine c_seq ?_ | refine x_then ?_ | refine r_alloc rfl rfl rfl (by first | exact aggL  | fail) (fun _ => ?_) | refine r_store rfl rfl rfl rfl rfl rfl rfl (by repeat (first | exact Upd.head | apply Upd.tail)) (by rfl) ?_ | refine c_dec_t rfl (by first | omega  | fail) ?_ | refine c_block ?_ | refine c_skip ?_ | refine c_ret ?_ | refine x_then_ret ?_ | refine x_block_ret ?_ | refine c_reads rfl (by decide +kernel) ?_ | refine q_val rfl rfl (by first | exact pureEval_ok rfl | exact v_load rfl (by repeat (first | exact List.Mem.head _ | apply List.Mem.tail)) rfl (by rfl)  | fail) ?_ | refine q_nil ?_ | refine q_skip rfl rfl ?_  | fail)
        exact x_ret rfl rfl (by repeat (first | exact Res.nil | (apply Res.tmp; rfl) | (apply Res.cell; rfl; exact (by repeat (first | exact List.Mem.head _ | apply List.Mem.tail)); rfl; rfl))) rfl (fun W hW => ⟨by rw [hv], hW.below⟩)
      by_cases g3 : -65536 ≤ t.ticks ∧ t.ticks ≤ 65536
      rotate_left
      · have hv := bad fun h => g3 h.2.1
        clear bad good
        repeat (first | refine l_val rfl rfl (by first | exact pureEval_ok rfl | exact v_load rfl (by repeat (first | exact List.Mem.head _ | apply List.Mem.tail)) rfl (by rfl) | exact v_load_ext0 rfl (by assumption) rfl (by rfl) | exact v_index rfl rfl rfl rfl (by omega) (by omega) (by with_reducible first | exact idx4 _ _ _   | fail)  | fail) ?_ | refine l_nil ?_ | refine c_region ?_ | refine c_seq ?_ | refine x_then ?_ | refine l_skip rfl rfl ?_ | refine r_alloc rfl rfl rfl (by first | exact aggL  | fail) (fun _ => ?_) | refine r_store rfl rfl rfl rfl rfl rfl rfl (by repeat (first | exact Upd.head | apply Upd.tail)) (by rfl) ?_ | refine c_true rfl ?_ | refine c_dec_t rfl (by first | omega  | fail) ?_ | refine c_dec_f rfl (by first | omega  | fail) ?_ | refine c_block ?_ | refine c_skip ?_ | refine c_ret ?_ | refine x_then_ret ?_ | refine x_block_ret ?_ | refine c_reads rfl (by decide +kernel) ?_ | refine q_val rfl rfl (by first | exact pureEval_ok rfl | exact v_load rfl (by repeat (first | exact List.Mem.head _ | apply List.Mem.tail)) rfl (by rfl)  | fail) ?_ | refine q_nil ?_ | refine q_skip rfl rfl ?_ | refine l_not_t rfl rfl rfl rfl (by first | omega  | fail) ?_ | (refine r_call rfl rfl rfl (fun W hW => within_calls _ _ _ W) ?_)  | fail)
        exact x_ret rfl rfl (by repeat (first | exact Res.nil | (apply Res.tmp; rfl) | (apply Res.cell; rfl; exact (by repeat (first | exact List.Mem.head _ | apply List.Mem.tail)); rfl; rfl))) rfl (fun W hW => ⟨by rw [hv], hW.below⟩)
      by_cases g4 : -65536 ≤ t.step ∧ t.step ≤ 65536
      rotate_left
      · have hv := bad fun h => g4 h.2.2
        clear bad good
        obtain ⟨g5, g6⟩ := g3
        repeat (first | refine l_val rfl rfl (by first | exact pureEval_ok rfl | exact v_load rfl (by repeat (first | exact List.Mem.head _ | apply List.Mem.tail)) rfl (by rfl) | exact v_load_ext0 rfl (by assumption) rfl (by rfl) | exact v_index rfl rfl rfl rfl (by omega) (by omega) (by with_reducible first | exact idx4 _ _ _   | fail)  | fail) ?_ | refine l_nil ?_ | refine c_region ?_ | refine c_seq ?_ | refine x_then ?_ | refine r_alloc rfl rfl rfl (by first | exact aggL  | fail) (fun _ => ?_) | refine r_store rfl rfl rfl rfl rfl rfl rfl (by repeat (first | exact Upd.head | apply Upd.tail)) (by rfl) ?_ | refine c_dec_t rfl (by first | omega  | fail) ?_ | refine c_dec_f rfl (by first | omega  | fail) ?_ | refine c_block ?_ | refine c_skip ?_ | refine c_ret ?_ | refine x_then_ret ?_ | refine x_block_ret ?_ | refine c_reads rfl (by decide +kernel) ?_ | refine q_val rfl rfl (by first | exact pureEval_ok rfl | exact v_load rfl (by repeat (first | exact List.Mem.head _ | apply List.Mem.tail)) rfl (by rfl)  | fail) ?_ | refine q_nil ?_ | refine q_skip rfl rfl ?_ | refine c_not_t rfl (by first | omega  | fail) ?_ | refine l_not_f rfl rfl rfl rfl (by first | omega  | fail) ?_ | (refine r_call rfl rfl rfl (fun W hW => within_calls _ _ _ W) ?_)  | fail)
        exact x_ret rfl rfl (by repeat (first | exact Res.nil | (apply Res.tmp; rfl) | (apply Res.cell; rfl; exact (by repeat (first | exact List.Mem.head _ | apply List.Mem.tail)); rfl; rfl))) rfl (fun W hW => ⟨by rw [hv], hW.below⟩)
      have i5 := fun (_ : Unit) => good ⟨g1, g2⟩ g3 g4
      clear bad good
      obtain ⟨g5, g6⟩ := g3
      obtain ⟨g7, g8⟩ := g4
      repeat (first | refine l_val rfl rfl (by first | exact v_add rfl rfl (by omega) (by omega) | exact pureEval_ok rfl | exact v_load rfl (by repeat (first | exact List.Mem.head _ | apply List.Mem.tail)) rfl (by rfl) | exact v_load_ext0 rfl (by assumption) rfl (by rfl) | exact v_index rfl rfl rfl rfl (by omega) (by omega) (by with_reducible first | exact idx4 _ _ _   | fail)  | fail) ?_ | refine l_nil ?_ | refine c_region ?_ | refine c_seq ?_ | refine x_then ?_ | refine r_alloc rfl rfl rfl (by first | exact aggL  | fail) (fun _ => ?_) | refine r_store rfl rfl rfl rfl rfl rfl rfl (by repeat (first | exact Upd.head | apply Upd.tail)) (by rfl) ?_ | refine c_dec_t rfl (by first | omega  | fail) ?_ | refine c_dec_f rfl (by first | omega | exact fun h => h rfl  | fail) ?_ | refine c_block ?_ | refine c_skip ?_ | refine x_block ?_ | refine c_reads rfl (by decide +kernel) ?_ | refine q_val rfl rfl (by first | exact pureEval_ok rfl | exact v_load rfl (by repeat (first | exact List.Mem.head _ | apply List.Mem.tail)) rfl (by rfl)  | fail) ?_ | refine q_nil ?_ | refine q_skip rfl rfl ?_ | refine l_not_f rfl rfl rfl rfl (by first | omega  | fail) ?_ | refine c_not_f rfl (by first | omega  | fail) ?_ | (refine r_call rfl rfl rfl (fun W hW => within_calls _ _ _ W) ?_)  | fail)
      exact x_back (0 + 1) ⟨hlt, i5 ()⟩ (by omega) (by repeat (first | exact EnvSub.nil | refine EnvSub.cons rfl (by first | rfl | (congr 1; done) | (exact congrArg (Value.int _) (by omega)) | (simp; done)) ?_)) (by repeat (first | exact MSub.nil | refine MSub.keep (by first | rfl | assumption) ?_ | refine MSub.drop ?_ | exact MSub.refl _))
    · clear hz0
      obtain ⟨u, hub, hx⟩ := hx h0
      unfold tpE at hx
      by_cases g1 : last + 1 ≤ t.bar
      rotate_left
      · have hv := bad fun h => g1 h.1.1
        clear bad good
        repeat (first | refine l_val rfl rfl (by first | exact pureEval_ok rfl | exact v_load rfl (by repeat (first | exact List.Mem.head _ | apply List.Mem.tail)) rfl (by rfl) | exact v_load_ext0 rfl (by assumption) rfl (by rfl) | exact v_index rfl rfl rfl rfl (by omega) (by omega) (by with_reducible first | exact idx4 _ _ _   | fail)  | fail) ?_ | refine l_nil ?_ | refine c_region ?_ | refine c_seq ?_ | refine x_then ?_ | refine r_alloc rfl rfl rfl (by first | exact aggL  | fail) (fun _ => ?_) | refine r_store rfl rfl rfl rfl rfl rfl rfl (by repeat (first | exact Upd.head | apply Upd.tail)) (by rfl) ?_ | refine c_true rfl ?_ | refine c_dec_t rfl (by first | omega  | fail) ?_ | refine c_block ?_ | refine c_skip ?_ | refine c_ret ?_ | refine x_then_ret ?_ | refine x_block_ret ?_ | refine c_reads rfl (by decide +kernel) ?_ | refine q_val rfl rfl (by first | exact v_sub rfl rfl (by omega) (by omega) | exact pureEval_ok rfl | exact v_load rfl (by repeat (first | exact List.Mem.head _ | apply List.Mem.tail)) rfl (by rfl) | exact v_load_ext0 rfl (by assumption) rfl (by rfl) | exact v_index rfl rfl rfl rfl (by omega) (by omega) (by with_reducible first | exact idx8 _ _ _   | fail)  | fail) ?_ | refine q_nil ?_ | refine q_skip rfl rfl ?_ | refine q_dec_t rfl rfl rfl rfl (by first | omega  | fail) ?_  | fail)
        exact x_ret rfl rfl (by repeat (first | exact Res.nil | (apply Res.tmp; rfl) | (apply Res.cell; rfl; exact (by repeat (first | exact List.Mem.head _ | apply List.Mem.tail)); rfl; rfl))) rfl (fun W hW => ⟨by rw [hv], hW.below⟩)
      by_cases g2 : t.bar ≤ n - 1
      rotate_left
      · have hv := bad fun h => g2 h.1.2
        clear bad good
        repeat (first | refine l_val rfl rfl (by first | exact pureEval_ok rfl | exact v_load rfl (by repeat (first | exact List.Mem.head _ | apply List.Mem.tail)) rfl (by rfl) | exact v_load_ext0 rfl (by assumption) rfl (by rfl) | exact v_index rfl rfl rfl rfl (by omega) (by omega) (by with_reducible first | exact idx4 _ _ _   | fail)  | fail) ?_ | refine l_nil ?_ | refine c_region ?_ | refine c_seq ?_ | refine x_then ?_ | refine r_alloc rfl rfl rfl (by first | exact aggL  | fail) (fun _ => ?_) | refine r_store rfl rfl rfl rfl rfl rfl rfl (by repeat (first | exact Upd.head | apply Upd.tail)) (by rfl) ?_ | refine c_dec_t rfl (by first | omega  | fail) ?_ | refine c_block ?_ | refine c_skip ?_ | refine c_ret ?_ | refine x_then_ret ?_ | refine x_block_ret ?_ | refine c_reads rfl (by decide +kernel) ?_ | refine q_val rfl rfl (by first | exact v_sub rfl rfl (by omega) (by omega) | exact pureEval_ok rfl | exact v_load rfl (by repeat (first | exact List.Mem.head _ | apply List.Mem.tail)) rfl (by rfl) | exact v_load_ext0 rfl (by assumption) rfl (by rfl) | exact v_index rfl rfl rfl rfl (by omega) (by omega) (by with_reducible first | exact idx8 _ _ _   | fail)  | fail) ?_ | refine q_nil ?_ | refine q_dec_t rfl rfl rfl rfl (by first | omega  | fail) ?_ | refine q_dec_f rfl rfl rfl rfl (by first | omega  | fail) ?_  | fail)
        exact x_ret rfl rfl (by repeat (first | exact Res.nil | (apply Res.tmp; rfl) | (apply Res.cell; rfl; exact (by repeat (first | exact List.Mem.head _ | apply List.Mem.tail)); rfl; rfl))) rfl (fun W hW => ⟨by rw [hv], hW.below⟩)
      by_cases g3 : -65536 ≤ t.ticks ∧ t.ticks ≤ 65536
      rotate_left
      · have hv := bad fun h => g3 h.2.1
        clear bad good
        repeat (first | refine l_val rfl rfl (by first | exact pureEval_ok rfl | exact v_load rfl (by repeat (first | exact List.Mem.head _ | apply List.Mem.tail)) rfl (by rfl) | exact v_load_ext0 rfl (by assumption) rfl (by rfl) | exact v_index rfl rfl rfl rfl (by omega) (by omega) (by with_reducible first | exact idx4 _ _ _   | fail)  | fail) ?_ | refine l_nil ?_ | refine c_region ?_ | refine c_seq ?_ | refine x_then ?_ | refine l_skip rfl rfl ?_ | refine r_alloc rfl rfl rfl (by first | exact aggL  | fail) (fun _ => ?_) | refine r_store rfl rfl rfl rfl rfl rfl rfl (by repeat (first | exact Upd.head | apply Upd.tail)) (by rfl) ?_ | refine c_true rfl ?_ | refine c_dec_t rfl (by first | omega  | fail) ?_ | refine c_dec_f rfl (by first | omega  | fail) ?_ | refine c_block ?_ | refine c_skip ?_ | refine c_ret ?_ | refine x_then_ret ?_ | refine x_block_ret ?_ | refine c_reads rfl (by decide +kernel) ?_ | refine q_val rfl rfl (by first | exact v_sub rfl rfl (by omega) (by omega) | exact pureEval_ok rfl | exact v_load rfl (by repeat (first | exact List.Mem.head _ | apply List.Mem.tail)) rfl (by rfl) | exact v_load_ext0 rfl (by assumption) rfl (by rfl) | exact v_index rfl rfl rfl rfl (by omega) (by omega) (by with_reducible first | exact idx8 _ _ _   | fail)  | fail) ?_ | refine q_nil ?_ | refine q_dec_t rfl rfl rfl rfl (by first | omega  | fail) ?_ | refine q_dec_f rfl rfl rfl rfl (by first | omega  | fail) ?_ | refine l_not_t rfl rfl rfl rfl (by first | omega  | fail) ?_ | (refine r_call rfl rfl rfl (fun W hW => within_calls _ _ _ W) ?_)  | fail)
        exact x_ret rfl rfl (by repeat (first | exact Res.nil | (apply Res.tmp; rfl) | (apply Res.cell; rfl; exact (by repeat (first | exact List.Mem.head _ | apply List.Mem.tail)); rfl; rfl))) rfl (fun W hW => ⟨by rw [hv], hW.below⟩)
      by_cases g4 : -65536 ≤ t.step ∧ t.step ≤ 65536
      rotate_left
      · have hv := bad fun h => g4 h.2.2
        clear bad good
        obtain ⟨g5, g6⟩ := g3
        repeat (first | refine l_val rfl rfl (by first | exact pureEval_ok rfl | exact v_load rfl (by repeat (first | exact List.Mem.head _ | apply List.Mem.tail)) rfl (by rfl) | exact v_load_ext0 rfl (by assumption) rfl (by rfl) | exact v_index rfl rfl rfl rfl (by omega) (by omega) (by with_reducible first | exact idx4 _ _ _   | fail)  | fail) ?_ | refine l_nil ?_ | refine c_region ?_ | refine c_seq ?_ | refine x_then ?_ | refine r_alloc rfl rfl rfl (by first | exact aggL  | fail) (fun _ => ?_) | refine r_store rfl rfl rfl rfl rfl rfl rfl (by repeat (first | exact Upd.head | apply Upd.tail)) (by rfl) ?_ | refine c_dec_t rfl (by first | omega  | fail) ?_ | refine c_dec_f rfl (by first | omega  | fail) ?_ | refine c_block ?_ | refine c_skip ?_ | refine c_ret ?_ | refine x_then_ret ?_ | refine x_block_ret ?_ | refine c_reads rfl (by decide +kernel) ?_ | refine q_val rfl rfl (by first | exact v_sub rfl rfl (by omega) (by omega) | exact pureEval_ok rfl | exact v_load rfl (by repeat (first | exact List.Mem.head _ | apply List.Mem.tail)) rfl (by rfl) | exact v_load_ext0 rfl (by assumption) rfl (by rfl) | exact v_index rfl rfl rfl rfl (by omega) (by omega) (by with_reducible first | exact idx8 _ _ _   | fail)  | fail) ?_ | refine q_nil ?_ | refine q_dec_t rfl rfl rfl rfl (by first | omega  | fail) ?_ | refine q_dec_f rfl rfl rfl rfl (by first | omega  | fail) ?_ | refine c_not_t rfl (by first | omega  | fail) ?_ | refine l_not_f rfl rfl rfl rfl (by first | omega  | fail) ?_ | (refine r_call rfl rfl rfl (fun W hW => within_calls _ _ _ W) ?_)  | fail)
        exact x_ret rfl rfl (by repeat (first | exact Res.nil | (apply Res.tmp; rfl) | (apply Res.cell; rfl; exact (by repeat (first | exact List.Mem.head _ | apply List.Mem.tail)); rfl; rfl))) rfl (fun W hW => ⟨by rw [hv], hW.below⟩)
      have i5 := fun (_ : Unit) => good ⟨g1, g2⟩ g3 g4
      clear bad good
      obtain ⟨g5, g6⟩ := g3
      obtain ⟨g7, g8⟩ := g4
      repeat (first | refine l_val rfl rfl (by first | exact v_add rfl rfl (by omega) (by omega) | exact pureEval_ok rfl | exact v_load rfl (by repeat (first | exact List.Mem.head _ | apply List.Mem.tail)) rfl (by rfl) | exact v_load_ext0 rfl (by assumption) rfl (by rfl) | exact v_index rfl rfl rfl rfl (by omega) (by omega) (by with_reducible first | exact idx4 _ _ _   | fail)  | fail) ?_ | refine l_nil ?_ | refine c_region ?_ | refine c_seq ?_ | refine x_then ?_ | refine r_alloc rfl rfl rfl (by first | exact aggL  | fail) (fun _ => ?_) | refine r_store rfl rfl rfl rfl rfl rfl rfl (by repeat (first | exact Upd.head | apply Upd.tail)) (by rfl) ?_ | refine c_dec_t rfl (by first | omega  | fail) ?_ | refine c_dec_f rfl (by first | omega | exact fun h => h rfl  | fail) ?_ | refine c_block ?_ | refine c_skip ?_ | refine x_block ?_ | refine c_reads rfl (by decide +kernel) ?_ | refine q_val rfl rfl (by first | exact v_sub rfl rfl (by omega) (by omega) | exact pureEval_ok rfl | exact v_load rfl (by repeat (first | exact List.Mem.head _ | apply List.Mem.tail)) rfl (by rfl) | exact v_load_ext0 rfl (by assumption) rfl (by rfl) | exact v_index rfl rfl rfl rfl (by omega) (by omega) (by with_reducible first | exact idx8 _ _ _   | fail)  | fail) ?_ | refine q_nil ?_ | refine q_dec_t rfl rfl rfl rfl (by first | omega  | fail) ?_ | refine q_dec_f rfl rfl rfl rfl (by first | omega  | fail) ?_ | refine l_not_f rfl rfl rfl rfl (by first | omega  | fail) ?_ | refine c_not_f rfl (by first | omega  | fail) ?_ | (refine r_call rfl rfl rfl (fun W hW => within_calls _ _ _ W) ?_)  | fail)
      exact x_back (k + 1) ⟨hlt, i5 ()⟩ (by omega) (by repeat (first | exact EnvSub.nil | refine EnvSub.cons rfl (by first | rfl | (congr 1; done) | (exact congrArg (Value.int _) (by omega)) | (simp; done)) ?_)) (by repeat (first | exact MSub.nil | refine MSub.keep (by first | rfl | assumption) ?_ | refine MSub.drop ?_ | exact MSub.refl _))
  have hk : k = ts.length := by omega
  subst hk
  have ha : asc (-1) n ts = true := by rw [i4, List.drop_length]; rfl
  rw [ha, Bool.true_and, ← ok_ends ha ht0 hz]
  clear i4 i1
  obtain ⟨V, hV⟩ : ∃ V, okEnds ts n = V := ⟨_, rfl⟩
  have hyes : Unit → (∀ i, i < ts.length → (1 ≤ tk ts (ts.getD i default).bar ∧ tk ts (ts.getD i default).bar ≤ 65536) ∧ 1 ≤ tk ts (lastOf ts n i) ∧ tk ts (lastOf ts n i) ≤ 65536) → V = true := fun _ h => by rw [← hV, okEnds_iff.2 h]
  have hno : Unit → V = true → (∀ i, i < ts.length → (1 ≤ tk ts (ts.getD i default).bar ∧ tk ts (ts.getD i default).bar ≤ 65536) ∧ 1 ≤ tk ts (lastOf ts n i) ∧ tk ts (lastOf ts n i) ≤ 65536) := fun _ h => okEnds_iff.1 (hV.trans h)
  rw [hV]
  clear hV
  repeat (first | refine l_val rfl rfl (by first | exact pureEval_ok rfl | exact v_load rfl (by repeat (first | exact List.Mem.head _ | apply List.Mem.tail)) rfl (by rfl)  | fail) ?_ | refine l_nil ?_ | refine c_region ?_ | refine c_seq ?_ | refine x_then ?_ | refine c_dec_f rfl (by first | omega  | fail) ?_ | refine c_block ?_ | refine c_exit ?_ | refine x_then_exit ?_ | refine x_block_same ?_  | fail)
  refine c_loop (ι := Nat) (fun k => k ≤ ts.length ∧ (Unit → ∀ i, i < k → (1 ≤ tk ts (ts.getD i default).bar ∧ tk ts (ts.getD i default).bar ≤ 65536) ∧ 1 ≤ tk ts (lastOf ts n i) ∧ tk ts (lastOf ts n i) ≤ 65536)) (fun k => [(1, .pointer (some ⟨b1, 0, none⟩)), (2, .bool false), (5, .int .i64 k)]) (fun _ => [(b1, .cells ⟨[.int .i64 n, .slice (some ⟨ba, oa, none⟩) ts.length ca, .slice B ps.length cb, .slice C sp.length cc]⟩ 28 (0, 0))]) (fun k => ts.length - k) 0 ⟨by omega, fun _ i h => by omega⟩ (by repeat (first | exact EnvSub.nil | refine EnvSub.cons rfl (by first | rfl | (congr 1; done) | (exact congrArg (Value.int _) (by omega)) | (simp; done)) ?_)) (by repeat (first | exact MSub.nil | refine MSub.keep (by first | rfl | assumption) ?_ | refine MSub.drop ?_ | exact MSub.refl _)) ?_
  rintro k ⟨i1, i2⟩
  by_cases hlt : k < ts.length
  · obtain ⟨t, ht⟩ : ∃ t, ts[k]? = some t := ⟨_, List.getElem?_eq_getElem hlt⟩
    obtain ⟨b', o', h', hc⟩ := ext_at hA.a ht
    cases h'
    have he := ext_of hc
    unfold tpE at he
    obtain ⟨q1, q2, _, _⟩ := asc_get ha ht
    obtain ⟨p1, p2, _⟩ := lastOf_lt ha ht
    obtain ⟨last, hlast⟩ : ∃ x, lastOf ts n k = x := ⟨_, rfl⟩
    obtain ⟨T1, hT1⟩ : ∃ x, tk ts t.bar = x := ⟨_, rfl⟩
    obtain ⟨T2, hT2⟩ : ∃ x, tk ts last = x := ⟨_, rfl⟩
    rw [hlast] at p1 p2
    have c1 : ∀ W, (⟨n, ts, ps, sp, some ⟨ba, oa, none⟩, B, C, ca, cb, cc⟩ : Clk).In W → _ := fun W hW => rticks_calls (⟨n, ts, ps, sp, some ⟨ba, oa, none⟩, B, C, ca, cb, cc⟩ : Clk) t.bar W hl hn2 hh0 ha (by omega) (by omega) hW
    have c2 : ∀ W, (⟨n, ts, ps, sp, some ⟨ba, oa, none⟩, B, C, ca, cb, cc⟩ : Clk).In W → _ := fun W hW => rticks_calls (⟨n, ts, ps, sp, some ⟨ba, oa, none⟩, B, C, ca, cb, cc⟩ : Clk) last W hl hn2 hh0 ha (by omega) (by omega) hW
    simp only [hT1, hT2] at c1 c2
    have hback : (1 ≤ T1 ∧ T1 ≤ 65536) → (1 ≤ T2 ∧ T2 ≤ 65536) → (Unit → ∀ i, i < k + 1 → (1 ≤ tk ts (ts.getD i default).bar ∧ tk ts (ts.getD i default).bar ≤ 65536) ∧ 1 ≤ tk ts (lastOf ts n i) ∧ tk ts (lastOf ts n i) ≤ 65536) := fun h1 h2 _ i hi => by
      by_cases hik : i = k
      · subst hik; rw [getD_of ht, hlast, hT1, hT2]; exact ⟨h1, h2⟩
      · exact i2 () i (by omega)
    have hbad : Unit → ¬ ((1 ≤ T1 ∧ T1 ≤ 65536) ∧ 1 ≤ T2 ∧ T2 ≤ 65536) → V = false := fun _ h => by
      rw [Bool.eq_false_iff]; intro hv
      have := hno () hv k hlt
      rw [getD_of ht, hlast, hT1, hT2] at this
      exact h this
    by_cases hk1 : k + 1 < ts.length
    · obtain ⟨u, hu⟩ : ∃ u, ts[k + 1]? = some u := ⟨_, List.getElem?_eq_getElem hk1⟩
      obtain ⟨b2, o2, h', hc'⟩ := ext_at hA.a hu
      cases h'
      have hx : Ext w (base w) ba (oa + ((k : Int) + 1).toNat * 3) (tpE u) := by rw [show ((k : Int) + 1).toNat = k + 1 by omega]; exact ext_of hc'
      unfold tpE at hx
      obtain ⟨u1, u2, _, _⟩ := asc_get ha hu
      have hl2 : last = u.bar - 1 := by rw [← hlast]; unfold lastOf; rw [if_pos hk1, getD_of hu]
      subst hl2
      by_cases g1 : 1 ≤ T1 ∧ T1 ≤ 65536
      rotate_left
      · have hv := hbad () fun h => g1 h.1
        clear hback hbad hno hyes i2
        repeat (first | refine l_val rfl rfl (by first | exact v_add rfl rfl (by omega) (by omega) | exact v_sub rfl rfl (by omega) (by omega) | exact pureEval_ok rfl | exact v_load rfl (by repeat (first | exact List.Mem.head _ | apply List.Mem.tail)) rfl (by rfl) | exact v_load_ext0 rfl (by assumption) rfl (by rfl) | exact v_index rfl rfl rfl rfl (by omega) (by omega) (by with_reducible first | exact idx8 _ _ _   | fail)  | fail) ?_ | refine l_nil ?_ | refine c_region ?_ | refine c_seq ?_ | refine x_then ?_ | refine c_dec_t rfl (by first | omega  | fail) ?_ | refine c_block ?_ | refine c_skip ?_ | refine c_reads rfl (by decide +kernel) ?_ | refine q_val rfl rfl (by first | exact pureEval_ok rfl | exact v_load rfl (by repeat (first | exact List.Mem.head _ | apply List.Mem.tail)) rfl (by rfl) | exact v_load_ext0 rfl (by assumption) rfl (by rfl) | exact v_index rfl rfl rfl rfl (by omega) (by omega) (by with_reducible first | exact idx4 _ _ _   | fail)  | fail) ?_  | fail)
        refine q_call rfl rfl rfl (fun W hW => c1 W (hA.sat hW)) ?_
        repeat (first | refine l_val rfl rfl (by first | exact pureEval_ok rfl  | fail) ?_ | refine l_nil ?_ | refine c_region ?_ | refine c_seq ?_ | refine x_then ?_ | refine c_true rfl ?_ | refine c_ret ?_ | refine x_then_ret ?_ | refine x_block_ret ?_ | refine q_val rfl rfl (by first | exact pureEval_ok rfl | exact v_load rfl (by repeat (first | exact List.Mem.head _ | apply List.Mem.tail)) rfl (by rfl)  | fail) ?_ | refine q_nil ?_ | refine q_skip rfl rfl ?_ | refine q_not_t rfl rfl rfl rfl (by first | omega  | fail) ?_ | (refine q_call rfl rfl rfl (fun W hW => within_calls _ _ _ W) ?_)  | fail)
        exact x_ret rfl rfl (by repeat (first | exact Res.nil | (apply Res.tmp; rfl) | (apply Res.cell; rfl; exact (by repeat (first | exact List.Mem.head _ | apply List.Mem.tail)); rfl; rfl))) rfl (fun W hW => ⟨by rw [hv], hW.below⟩)
      by_cases g2 : 1 ≤ T2 ∧ T2 ≤ 65536
      rotate_left
      · have hv := hbad () fun h => g2 h.2
        clear hback hbad hno hyes i2
        obtain ⟨g3, g4⟩ := g1
        repeat (first | refine l_val rfl rfl (by first | exact v_add rfl rfl (by omega) (by omega) | exact v_sub rfl rfl (by omega) (by omega) | exact pureEval_ok rfl | exact v_load rfl (by repeat (first | exact List.Mem.head _ | apply List.Mem.tail)) rfl (by rfl) | exact v_load_ext0 rfl (by assumption) rfl (by rfl) | exact v_index rfl rfl rfl rfl (by omega) (by omega) (by with_reducible first | exact idx8 _ _ _   | fail)  | fail) ?_ | refine l_nil ?_ | refine c_region ?_ | refine c_seq ?_ | refine x_then ?_ | refine c_dec_t rfl (by first | omega  | fail) ?_ | refine c_block ?_ | refine c_skip ?_ | refine c_reads rfl (by decide +kernel) ?_ | refine q_val rfl rfl (by first | exact pureEval_ok rfl | exact v_load rfl (by repeat (first | exact List.Mem.head _ | apply List.Mem.tail)) rfl (by rfl) | exact v_load_ext0 rfl (by assumption) rfl (by rfl) | exact v_index rfl rfl rfl rfl (by omega) (by omega) (by with_reducible first | exact idx4 _ _ _   | fail)  | fail) ?_  | fail)
        refine q_call rfl rfl rfl (fun W hW => c1 W (hA.sat hW)) ?_
        repeat (first | refine q_val rfl rfl (by first | exact pureEval_ok rfl | exact v_load rfl (by repeat (first | exact List.Mem.head _ | apply List.Mem.tail)) rfl (by rfl)  | fail) ?_ | refine q_not_f rfl rfl rfl rfl (by first | omega  | fail) ?_ | (refine q_call rfl rfl rfl (fun W hW => within_calls _ _ _ W) ?_)  | fail)
        refine q_call rfl rfl rfl (fun W hW => c2 W (hA.sat hW)) ?_
        repeat (first | refine l_val rfl rfl (by first | exact pureEval_ok rfl  | fail) ?_ | refine l_nil ?_ | refine c_region ?_ | refine c_seq ?_ | refine x_then ?_ | refine c_ret ?_ | refine x_then_ret ?_ | refine x_block_ret ?_ | refine q_val rfl rfl (by first | exact pureEval_ok rfl  | fail) ?_ | refine q_nil ?_ | refine c_not_t rfl (by first | omega  | fail) ?_ | (refine q_call rfl rfl rfl (fun W hW => within_calls _ _ _ W) ?_)  | fail)
        exact x_ret rfl rfl (by repeat (first | exact Res.nil | (apply Res.tmp; rfl) | (apply Res.cell; rfl; exact (by repeat (first | exact List.Mem.head _ | apply List.Mem.tail)); rfl; rfl))) rfl (fun W hW => ⟨by rw [hv], hW.below⟩)
      have hback := fun (_ : Unit) => hback g1 g2
      clear hbad hno hyes i2
      obtain ⟨g3, g4⟩ := g1
      obtain ⟨g5, g6⟩ := g2
      repeat (first | refine l_val rfl rfl (by first | exact v_add rfl rfl (by omega) (by omega) | exact v_sub rfl rfl (by omega) (by omega) | exact pureEval_ok rfl | exact v_load rfl (by repeat (first | exact List.Mem.head _ | apply List.Mem.tail)) rfl (by rfl) | exact v_load_ext0 rfl (by assumption) rfl (by rfl) | exact v_index rfl rfl rfl rfl (by omega) (by omega) (by with_reducible first | exact idx8 _ _ _   | fail)  | fail) ?_ | refine l_nil ?_ | refine c_region ?_ | refine c_seq ?_ | refine x_then ?_ | refine c_dec_t rfl (by first | omega  | fail) ?_ | refine c_block ?_ | refine c_skip ?_ | refine c_reads rfl (by decide +kernel) ?_ | refine q_val rfl rfl (by first | exact pureEval_ok rfl | exact v_load rfl (by repeat (first | exact List.Mem.head _ | apply List.Mem.tail)) rfl (by rfl) | exact v_load_ext0 rfl (by assumption) rfl (by rfl) | exact v_index rfl rfl rfl rfl (by omega) (by omega) (by with_reducible first | exact idx4 _ _ _   | fail)  | fail) ?_  | fail)
      refine q_call rfl rfl rfl (fun W hW => c1 W (hA.sat hW)) ?_
      repeat (first | refine q_val rfl rfl (by first | exact pureEval_ok rfl | exact v_load rfl (by repeat (first | exact List.Mem.head _ | apply List.Mem.tail)) rfl (by rfl)  | fail) ?_ | refine q_not_f rfl rfl rfl rfl (by first | omega  | fail) ?_ | (refine q_call rfl rfl rfl (fun W hW => within_calls _ _ _ W) ?_)  | fail)
      refine q_call rfl rfl rfl (fun W hW => c2 W (hA.sat hW)) ?_
      repeat (first | refine l_val rfl rfl (by first | exact v_add rfl rfl (by omega) (by omega) | exact pureEval_ok rfl  | fail) ?_ | refine l_nil ?_ | refine c_region ?_ | refine x_then ?_ | refine c_skip ?_ | refine x_block ?_ | refine q_val rfl rfl (by first | exact pureEval_ok rfl  | fail) ?_ | refine q_nil ?_ | refine c_not_f rfl (by first | omega  | fail) ?_ | (refine q_call rfl rfl rfl (fun W hW => within_calls _ _ _ W) ?_)  | fail)
      exact x_back (k + 1) ⟨hlt, hback ()⟩ (by omega) (by repeat (first | exact EnvSub.nil | refine EnvSub.cons rfl (by first | rfl | (congr 1; done) | (exact congrArg (Value.int _) (by omega)) | (simp; done)) ?_)) (by repeat (first | exact MSub.nil | refine MSub.keep (by first | rfl | assumption) ?_ | refine MSub.drop ?_ | exact MSub.refl _))
    · have hl2 : last = n - 1 := by rw [← hlast]; unfold lastOf; rw [if_neg hk1]
      subst hl2
      by_cases g1 : 1 ≤ T1 ∧ T1 ≤ 65536
      rotate_left
      · have hv := hbad () fun h => g1 h.1
        clear hback hbad hno hyes i2
        repeat (first | refine l_val rfl rfl (by first | exact v_add rfl rfl (by omega) (by omega) | exact v_sub rfl rfl (by omega) (by omega) | exact pureEval_ok rfl | exact v_load rfl (by repeat (first | exact List.Mem.head _ | apply List.Mem.tail)) rfl (by rfl)  | fail) ?_ | refine l_nil ?_ | refine c_region ?_ | refine c_seq ?_ | refine x_then ?_ | refine c_dec_t rfl (by first | omega  | fail) ?_ | refine c_dec_f rfl (by first | omega  | fail) ?_ | refine c_block ?_ | refine c_skip ?_ | refine c_reads rfl (by decide +kernel) ?_ | refine q_val rfl rfl (by first | exact pureEval_ok rfl | exact v_load rfl (by repeat (first | exact List.Mem.head _ | apply List.Mem.tail)) rfl (by rfl) | exact v_load_ext0 rfl (by assumption) rfl (by rfl) | exact v_index rfl rfl rfl rfl (by omega) (by omega) (by with_reducible first | exact idx4 _ _ _   | fail)  | fail) ?_  | fail)
        refine q_call rfl rfl rfl (fun W hW => c1 W (hA.sat hW)) ?_
        repeat (first | refine l_val rfl rfl (by first | exact pureEval_ok rfl  | fail) ?_ | refine l_nil ?_ | refine c_region ?_ | refine c_seq ?_ | refine x_then ?_ | refine c_true rfl ?_ | refine c_ret ?_ | refine x_then_ret ?_ | refine x_block_ret ?_ | refine q_val rfl rfl (by first | exact pureEval_ok rfl | exact v_load rfl (by repeat (first | exact List.Mem.head _ | apply List.Mem.tail)) rfl (by rfl)  | fail) ?_ | refine q_nil ?_ | refine q_skip rfl rfl ?_ | refine q_not_t rfl rfl rfl rfl (by first | omega  | fail) ?_ | (refine q_call rfl rfl rfl (fun W hW => within_calls _ _ _ W) ?_)  | fail)
        exact x_ret rfl rfl (by repeat (first | exact Res.nil | (apply Res.tmp; rfl) | (apply Res.cell; rfl; exact (by repeat (first | exact List.Mem.head _ | apply List.Mem.tail)); rfl; rfl))) rfl (fun W hW => ⟨by rw [hv], hW.below⟩)
      by_cases g2 : 1 ≤ T2 ∧ T2 ≤ 65536
      rotate_left
      · have hv := hbad () fun h => g2 h.2
        clear hback hbad hno hyes i2
        obtain ⟨g3, g4⟩ := g1
        repeat (first | refine l_val rfl rfl (by first | exact v_add rfl rfl (by omega) (by omega) | exact v_sub rfl rfl (by omega) (by omega) | exact pureEval_ok rfl | exact v_load rfl (by repeat (first | exact List.Mem.head _ | apply List.Mem.tail)) rfl (by rfl)  | fail) ?_ | refine l_nil ?_ | refine c_region ?_ | refine c_seq ?_ | refine x_then ?_ | refine c_dec_t rfl (by first | omega  | fail) ?_ | refine c_dec_f rfl (by first | omega  | fail) ?_ | refine c_block ?_ | refine c_skip ?_ | refine c_reads rfl (by decide +kernel) ?_ | refine q_val rfl rfl (by first | exact pureEval_ok rfl | exact v_load rfl (by repeat (first | exact List.Mem.head _ | apply List.Mem.tail)) rfl (by rfl) | exact v_load_ext0 rfl (by assumption) rfl (by rfl) | exact v_index rfl rfl rfl rfl (by omega) (by omega) (by with_reducible first | exact idx4 _ _ _   | fail)  | fail) ?_  | fail)
        refine q_call rfl rfl rfl (fun W hW => c1 W (hA.sat hW)) ?_
        repeat (first | refine q_val rfl rfl (by first | exact pureEval_ok rfl | exact v_load rfl (by repeat (first | exact List.Mem.head _ | apply List.Mem.tail)) rfl (by rfl)  | fail) ?_ | refine q_not_f rfl rfl rfl rfl (by first | omega  | fail) ?_ | (refine q_call rfl rfl rfl (fun W hW => within_calls _ _ _ W) ?_)  | fail)
        refine q_call rfl rfl rfl (fun W hW => c2 W (hA.sat hW)) ?_
        repeat (first | refine l_val rfl rfl (by first | exact pureEval_ok rfl  | fail) ?_ | refine l_nil ?_ | refine c_region ?_ | refine c_seq ?_ | refine x_then ?_ | refine c_ret ?_ | refine x_then_ret ?_ | refine x_block_ret ?_ | refine q_val rfl rfl (by first | exact pureEval_ok rfl  | fail) ?_ | refine q_nil ?_ | refine c_not_t rfl (by first | omega  | fail) ?_ | (refine q_call rfl rfl rfl (fun W hW => within_calls _ _ _ W) ?_)  | fail)
        exact x_ret rfl rfl (by repeat (first | exact Res.nil | (apply Res.tmp; rfl) | (apply Res.cell; rfl; exact (by repeat (first | exact List.Mem.head _ | apply List.Mem.tail)); rfl; rfl))) rfl (fun W hW => ⟨by rw [hv], hW.below⟩)
      have hback := fun (_ : Unit) => hback g1 g2
      clear hbad hno hyes i2
      obtain ⟨g3, g4⟩ := g1
      obtain ⟨g5, g6⟩ := g2
      repeat (first | refine l_val rfl rfl (by first | exact v_add rfl rfl (by omega) (by omega) | exact v_sub rfl rfl (by omega) (by omega) | exact pureEval_ok rfl | exact v_load rfl (by repeat (first | exact List.Mem.head _ | apply List.Mem.tail)) rfl (by rfl)  | fail) ?_ | refine l_nil ?_ | refine c_region ?_ | refine c_seq ?_ | refine x_then ?_ | refine c_dec_t rfl (by first | omega  | fail) ?_ | refine c_dec_f rfl (by first | omega  | fail) ?_ | refine c_block ?_ | refine c_skip ?_ | refine c_reads rfl (by decide +kernel) ?_ | refine q_val rfl rfl (by first | exact pureEval_ok rfl | exact v_load rfl (by repeat (first | exact List.Mem.head _ | apply List.Mem.tail)) rfl (by rfl) | exact v_load_ext0 rfl (by assumption) rfl (by rfl) | exact v_index rfl rfl rfl rfl (by omega) (by omega) (by with_reducible first | exact idx4 _ _ _   | fail)  | fail) ?_  | fail)
      refine q_call rfl rfl rfl (fun W hW => c1 W (hA.sat hW)) ?_
      repeat (first | refine q_val rfl rfl (by first | exact pureEval_ok rfl | exact v_load rfl (by repeat (first | exact List.Mem.head _ | apply List.Mem.tail)) rfl (by rfl)  | fail) ?_ | refine q_not_f rfl rfl rfl rfl (by first | omega  | fail) ?_ | (refine q_call rfl rfl rfl (fun W hW => within_calls _ _ _ W) ?_)  | fail)
      refine q_call rfl rfl rfl (fun W hW => c2 W (hA.sat hW)) ?_
      repeat (first | refine l_val rfl rfl (by first | exact v_add rfl rfl (by omega) (by omega) | exact pureEval_ok rfl  | fail) ?_ | refine l_nil ?_ | refine c_region ?_ | refine x_then ?_ | refine c_skip ?_ | refine x_block ?_ | refine q_val rfl rfl (by first | exact pureEval_ok rfl  | fail) ?_ | refine q_nil ?_ | refine c_not_f rfl (by first | omega  | fail) ?_ | (refine q_call rfl rfl rfl (fun W hW => within_calls _ _ _ W) ?_)  | fail)
      exact x_back (k + 1) ⟨hlt, hback ()⟩ (by omega) (by repeat (first | exact EnvSub.nil | refine EnvSub.cons rfl (by first | rfl | (congr 1; done) | (exact congrArg (Value.int _) (by omega)) | (simp; done)) ?_)) (by repeat (first | exact MSub.nil | refine MSub.keep (by first | rfl | assumption) ?_ | refine MSub.drop ?_ | exact MSub.refl _))
  have hk : k = ts.length := by omega
  subst hk
  have hv := hyes () (i2 ())
  clear i2
  repeat (first | refine l_val rfl rfl (by first | exact pureEval_ok rfl | exact v_load rfl (by repeat (first | exact List.Mem.head _ | apply List.Mem.tail)) rfl (by rfl)  | fail) ?_ | refine l_nil ?_ | refine c_region ?_ | refine c_seq ?_ | refine x_then ?_ | refine c_dec_f rfl (by first | omega  | fail) ?_ | refine c_ret ?_ | refine c_exit ?_ | refine x_then_exit ?_ | refine x_block_same ?_  | fail)
  exact x_ret rfl rfl (by repeat (first | exact Res.nil | (apply Res.tmp; rfl) | (apply Res.cell; rfl; exact (by repeat (first | exact List.Mem.head _ | apply List.Mem.tail)); rfl; rfl))) rfl (fun W hW => ⟨by rw [hv], hW.below⟩)

end R13
end Go.Proofs

set_option linter.unusedSectionVars false
set_option linter.unusedVariables false
set_option linter.unusedSimpArgs false
namespace Go.Proofs
open Go.RowKit Go.Kin Go.Kin.Tm
namespace R13
set_option maxHeartbeats 4000000
set_option maxRecDepth 100000 in
set_option maxHeartbeats 40000000 in
theorem rcheck_calls (c : Clk) (w : World) (hl1 : c.ts.length ≤ 5000) (hl2 : c.ps.length ≤ 5000) (hl3 : c.sp.length ≤ 5000) (hA : c.In w) :
    Calls Try.prog 36 ⟨[.agg ⟨c.v⟩]⟩ w fun e w' => e = .returned (.int .i64 (chk c.n c.ts c.ps c.sp)) ∧ Below w.heap.size w w' := by
  refine fun_enter Try.func36 rfl Try.ntmps36 rfl rfl (satW_nil w) ?_
  by_cases l1 : c.ts.length ≤ 4096
  rotate_left
  · have hv := chk_lim (n := c.n) (ts := c.ts) (ps := c.ps) (ss := c.sp) (fun h => l1 h.1)
    repeat (first | refine l_val rfl rfl (by first | exact pureEval_ok rfl | exact v_load rfl (by repeat (first | exact List.Mem.head _ | apply List.Mem.tail)) rfl (by rfl)  | fail) ?_ | refine l_nil ?_ | refine c_region ?_ | refine c_seq ?_ | refine x_then ?_ | refine l_skip rfl rfl ?_ | refine r_box rfl rfl rfl rfl (fun _ => ?_) | refine c_true rfl ?_ | refine c_ret ?_ | refine x_then_ret ?_ | refine l_dec_t rfl rfl rfl rfl rfl (by first | omega  | fail) ?_  | fail)
    exact x_ret rfl rfl (by repeat (first | exact Res.nil | (apply Res.tmp; rfl) | (apply Res.cell; rfl; exact (by repeat (first | exact List.Mem.head _ | apply List.Mem.tail)); rfl; rfl))) rfl (fun W hW => ⟨by rw [hv], hW.below⟩)
  by_cases l2 : c.ps.length ≤ 4096
  rotate_left
  · have hv := chk_lim (n := c.n) (ts := c.ts) (ps := c.ps) (ss := c.sp) (fun h => l2 h.2.1)
    repeat (first | refine l_val rfl rfl (by first | exact pureEval_ok rfl | exact v_load rfl (by repeat (first | exact List.Mem.head _ | apply List.Mem.tail)) rfl (by rfl)  | fail) ?_ | refine l_nil ?_ | refine c_region ?_ | refine c_seq ?_ | refine x_then ?_ | refine l_skip rfl rfl ?_ | refine r_box rfl rfl rfl rfl (fun _ => ?_) | refine c_true rfl ?_ | refine c_ret ?_ | refine x_then_ret ?_ | refine l_dec_t rfl rfl rfl rfl rfl (by first | omega  | fail) ?_ | refine l_dec_f rfl rfl rfl rfl rfl (by first | omega  | fail) ?_  | fail)
    exact x_ret rfl rfl (by repeat (first | exact Res.nil | (apply Res.tmp; rfl) | (apply Res.cell; rfl; exact (by repeat (first | exact List.Mem.head _ | apply List.Mem.tail)); rfl; rfl))) rfl (fun W hW => ⟨by rw [hv], hW.below⟩)
  by_cases l3 : c.sp.length ≤ 256
  rotate_left
  · have hv := chk_lim (n := c.n) (ts := c.ts) (ps := c.ps) (ss := c.sp) (fun h => l3 h.2.2)
    repeat (first | refine l_val rfl rfl (by first | exact pureEval_ok rfl | exact v_load rfl (by repeat (first | exact List.Mem.head _ | apply List.Mem.tail)) rfl (by rfl)  | fail) ?_ | refine l_nil ?_ | refine c_region ?_ | refine c_seq ?_ | refine x_then ?_ | refine r_box rfl rfl rfl rfl (fun _ => ?_) | refine c_dec_t rfl (by first | omega  | fail) ?_ | refine c_ret ?_ | refine x_then_ret ?_ | refine l_dec_f rfl rfl rfl rfl rfl (by first | omega  | fail) ?_  | fail)
    exact x_ret rfl rfl (by repeat (first | exact Res.nil | (apply Res.tmp; rfl) | (apply Res.cell; rfl; exact (by repeat (first | exact List.Mem.head _ | apply List.Mem.tail)); rfl; rfl))) rfl (fun W hW => ⟨by rw [hv], hW.below⟩)
  have hlim : c.ts.length ≤ 4096 ∧ c.ps.length ≤ 4096 ∧ c.sp.length ≤ 256 := ⟨l1, l2, l3⟩
  have hlim' : Unit → c.ts.length ≤ 4096 ∧ c.ps.length ≤ 4096 ∧ c.sp.length ≤ 256 := fun _ => hlim
  clear hlim
  by_cases hn : 1 ≤ c.n ∧ c.n ≤ 4096
  rotate_left
  · have hv := chk_no (hlim' ()) (no_n (ts := c.ts) (ps := c.ps) (ss := c.sp) hn)
    repeat (first | refine l_val rfl rfl (by first | exact pureEval_ok rfl | exact v_load rfl (by repeat (first | exact List.Mem.head _ | apply List.Mem.tail)) rfl (by rfl)  | fail) ?_ | refine l_nil ?_ | refine c_region ?_ | refine c_seq ?_ | refine x_then ?_ | refine l_skip rfl rfl ?_ | refine r_box rfl rfl rfl rfl (fun _ => ?_) | refine c_true rfl ?_ | refine c_dec_f rfl (by first | omega  | fail) ?_ | refine c_skip ?_ | refine c_ret ?_ | refine x_then_ret ?_ | refine l_dec_f rfl rfl rfl rfl rfl (by first | omega  | fail) ?_ | refine l_not_t rfl rfl rfl rfl (by first | omega  | fail) ?_ | (refine r_call rfl rfl rfl (fun W hW => within_calls _ _ _ W) ?_)  | fail)
    exact x_ret rfl rfl (by repeat (first | exact Res.nil | (apply Res.tmp; rfl) | (apply Res.cell; rfl; exact (by repeat (first | exact List.Mem.head _ | apply List.Mem.tail)); rfl; rfl))) rfl (fun W hW => ⟨by rw [hv], hW.below⟩)
  repeat (first | refine l_val rfl rfl (by first | exact pureEval_ok rfl | exact v_load rfl (by repeat (first | exact List.Mem.head _ | apply List.Mem.tail)) rfl (by rfl)  | fail) ?_ | refine l_nil ?_ | refine c_region ?_ | refine c_seq ?_ | refine x_then ?_ | refine r_box rfl rfl rfl rfl (fun _ => ?_) | refine c_dec_f rfl (by first | omega | exact fun h => h rfl  | fail) ?_ | refine c_skip ?_ | refine l_dec_f rfl rfl rfl rfl rfl (by first | omega | exact fun h => h rfl  | fail) ?_ | refine l_not_f rfl rfl rfl rfl (by first | omega  | fail) ?_ | (refine r_call rfl rfl rfl (fun W hW => within_calls _ _ _ W) ?_)  | fail)
  refine r_call rfl rfl rfl (fun W hW => tempos_calls c W hn hl1 (hA.sat hW)) ?_
  cases ht : (head0 c.ts && asc (-1) c.n c.ts && okBars c.ts c.n) with
  | false =>
    have hv := chk_no (n := c.n) (hlim' ()) (by
      unfold okClk
      rw [Bool.and_eq_false_iff] at ht
      rcases ht with ht | ht
      · rw [Bool.and_eq_false_iff] at ht
        rcases ht with ht | ht <;> simp [ht]
      · simp [ht])
    repeat (first | refine l_val rfl rfl (by first | exact pureEval_ok rfl | exact v_load rfl (by repeat (first | exact List.Mem.head _ | apply List.Mem.tail)) rfl (by rfl)  | fail) ?_ | refine l_nil ?_ | refine c_region ?_ | refine c_seq ?_ | refine x_then ?_ | refine l_skip rfl rfl ?_ | refine c_true rfl ?_ | refine c_ret ?_ | refine x_then_ret ?_  | fail)
    exact x_ret rfl rfl (by repeat (first | exact Res.nil | (apply Res.tmp; rfl) | (apply Res.cell; rfl; exact (by repeat (first | exact List.Mem.head _ | apply List.Mem.tail)); rfl; rfl))) rfl (fun W hW => ⟨by rw [hv], hW.below⟩)
  | true =>
    repeat (first | refine l_val rfl rfl (by first | exact pureEval_ok rfl | exact v_load rfl (by repeat (first | exact List.Mem.head _ | apply List.Mem.tail)) rfl (by rfl)  | fail) ?_  | fail)
    refine r_call rfl rfl rfl (fun W hW => pauses_calls c W hn hl2 (hA.sat hW)) ?_
    cases hp : ascP (-1) c.n c.ps with
    | false =>
      have hv := chk_no (hlim' ()) (no_ascP (ts := c.ts) (ss := c.sp) hp)
      repeat (first | refine l_val rfl rfl (by first | exact pureEval_ok rfl | exact v_load rfl (by repeat (first | exact List.Mem.head _ | apply List.Mem.tail)) rfl (by rfl)  | fail) ?_ | refine l_nil ?_ | refine c_region ?_ | refine c_seq ?_ | refine x_then ?_ | refine l_skip rfl rfl ?_ | refine c_true rfl ?_ | refine c_ret ?_ | refine x_then_ret ?_  | fail)
      exact x_ret rfl rfl (by repeat (first | exact Res.nil | (apply Res.tmp; rfl) | (apply Res.cell; rfl; exact (by repeat (first | exact List.Mem.head _ | apply List.Mem.tail)); rfl; rfl))) rfl (fun W hW => ⟨by rw [hv], hW.below⟩)
    | true =>
      repeat (first | refine l_val rfl rfl (by first | exact pureEval_ok rfl | exact v_load rfl (by repeat (first | exact List.Mem.head _ | apply List.Mem.tail)) rfl (by rfl)  | fail) ?_  | fail)
      refine r_call rfl rfl rfl (fun W hW => spans_calls c W hl3 (hA.sat hW)) ?_
      cases hs : c.sp.all (okSp c.n) with
      | false =>
        have hv := chk_no (hlim' ()) (no_sp (ts := c.ts) (ps := c.ps) hs)
        repeat (first | refine l_val rfl rfl (by first | exact pureEval_ok rfl  | fail) ?_ | refine l_nil ?_ | refine c_region ?_ | refine c_seq ?_ | refine x_then ?_ | refine c_true rfl ?_ | refine c_ret ?_ | refine x_then_ret ?_  | fail)
        exact x_ret rfl rfl (by repeat (first | exact Res.nil | (apply Res.tmp; rfl) | (apply Res.cell; rfl; exact (by repeat (first | exact List.Mem.head _ | apply List.Mem.tail)); rfl; rfl))) rfl (fun W hW => ⟨by rw [hv], hW.below⟩)
      | true =>
        simp only [Bool.and_eq_true] at ht
        have hv := chk_yes (hlim' ()) hn ht.1.1 ht.1.2 ht.2 hp hs
        repeat (first | refine l_val rfl rfl (by first | exact pureEval_ok rfl  | fail) ?_ | refine l_nil ?_ | refine c_region ?_ | refine c_seq ?_ | refine x_then ?_ | refine c_false rfl ?_ | refine c_skip ?_ | refine c_ret ?_  | fail)
        exact x_ret rfl rfl (by repeat (first | exact Res.nil | (apply Res.tmp; rfl) | (apply Res.cell; rfl; exact (by repeat (first | exact List.Mem.head _ | apply List.Mem.tail)); rfl; rfl))) rfl (fun W hW => ⟨by rw [hv], hW.below⟩)
end R13
end Go.Proofs
