/- Clocks: validate, in the program. -/
import Derived.Test.YtnmbglemgkopaaaTpDm
set_option linter.unusedSectionVars false
set_option linter.unusedVariables false
set_option linter.unusedSimpArgs false
namespace Go.Proofs
open Go.RowKit Go.Kin Go.Kin.Tm
namespace R13
set_option maxHeartbeats 4000000
set_option maxRecDepth 100000 in
set_option maxHeartbeats 4000000 in
theorem validate_calls (c : Clk) (w : World) (hl1 : c.ts.length ≤ 5000) (hl2 : c.ps.length ≤ 5000) (hl3 : c.sp.length ≤ 5000) (hA : c.In w) :
    Calls Try.prog 62 ⟨[.agg ⟨c.v⟩]⟩ w fun e w' => e = valE (chk c.n c.ts c.ps c.sp) ∧ Below w.heap.size w w' := by
  obtain ⟨n, ts, ps, sp, A, B, C, ca, cb, cc⟩ := c
  dsimp only [Clk.v] at *
  refine fun_enter Try.func62 rfl Try.ntmps62 rfl rfl (satW_nil w) ?_
  by_cases hlim : ts.length ≤ 4096 ∧ ps.length ≤ 4096 ∧ sp.length ≤ 256
  rotate_left
  · have hchk := chk_lim (n := n) hlim
    repeat' (first | refine l_val rfl rfl (by first | exact pureEval_ok rfl | exact v_load rfl (by repeat (first | exact List.Mem.head _ | apply List.Mem.tail)) rfl (by rfl)  | fail) ?_ | refine l_nil ?_ | refine c_region ?_ | refine c_seq ?_ | refine x_then ?_ | refine l_skip rfl rfl ?_ | refine r_box rfl rfl rfl rfl (fun _ => ?_) | refine l_dec rfl rfl rfl rfl rfl (fun _ => ?_) (fun _ => ?_)  | fail)
    all_goals
      refine r_callP rfl rfl (fun W hW => need_no2 (by first | rfl | exact decide_eq_false (by omega)) _ W) ?_
      repeat (first | refine x_then_panic ?_ | refine x_block_panic ?_ | refine x_scope_panic ?_)
      exact x_panic rfl (fun W hW => ⟨by rw [hchk]; rfl, hW.below⟩)
  have hlim' : Unit → ts.length ≤ 4096 ∧ ps.length ≤ 4096 ∧ sp.length ≤ 256 := fun _ => hlim
  obtain ⟨lim1, lim2, lim3⟩ := hlim
  repeat (first | refine l_val rfl rfl (by first | exact pureEval_ok rfl | exact v_load rfl (by repeat (first | exact List.Mem.head _ | apply List.Mem.tail)) rfl (by rfl)  | fail) ?_ | refine l_nil ?_ | refine c_region ?_ | refine c_seq ?_ | refine x_then ?_ | refine r_box rfl rfl rfl rfl (fun _ => ?_) | refine l_dec_t rfl rfl rfl rfl rfl (by first | omega  | fail) ?_  | fail)
  refine r_call rfl rfl rfl (fun W hW => need_ok2 (by first | rfl | exact decide_eq_true (by omega)) _ W) ?_
  rename_i b1
  by_cases hn : 1 ≤ n ∧ n ≤ 4096
  rotate_left
  · have hchk := chk_no (hlim' ()) (no_n (ts := ts) (ps := ps) (ss := sp) hn)
    repeat' (first | refine l_val rfl rfl (by first | exact pureEval_ok rfl | exact v_load rfl (by repeat (first | exact List.Mem.head _ | apply List.Mem.tail)) rfl (by rfl)  | fail) ?_ | refine l_nil ?_ | refine c_region ?_ | refine c_seq ?_ | refine x_then ?_ | refine l_skip rfl rfl ?_ | refine l_dec_f rfl rfl rfl rfl rfl (by first | omega  | fail) ?_ | (refine r_call rfl rfl rfl (fun W hW => in_calls _ _ _ W) ?_)  | fail)
    all_goals
      refine r_callP rfl rfl (fun W hW => need_no2 (by first | rfl | exact decide_eq_false (by omega)) _ W) ?_
      repeat (first | refine x_then_panic ?_ | refine x_block_panic ?_ | refine x_scope_panic ?_)
      exact x_panic rfl (fun W hW => ⟨by rw [hchk]; rfl, hW.below⟩)
  by_cases hne : 0 < ts.length
  rotate_left
  · have hchk := chk_no (hlim' ()) (no_head (n := n) (ts := ts) (ps := ps) (ss := sp) (by cases ts with | nil => rfl | cons _ _ => simp at hne))
    repeat' (first | refine l_val rfl rfl (by first | exact pureEval_ok rfl | exact v_load rfl (by repeat (first | exact List.Mem.head _ | apply List.Mem.tail)) rfl (by rfl)  | fail) ?_ | refine l_nil ?_ | refine c_region ?_ | refine c_seq ?_ | refine x_then ?_ | refine l_skip rfl rfl ?_ | refine l_dec_t rfl rfl rfl rfl rfl (by first | omega  | fail) ?_ | refine l_dec_f rfl rfl rfl rfl rfl (by first | omega  | fail) ?_ | (refine r_call rfl rfl rfl (fun W hW => in_calls _ _ _ W) ?_)  | fail)
    all_goals
      refine r_callP rfl rfl (fun W hW => need_no2 (by first | rfl | exact decide_eq_false (by omega)) _ W) ?_
      repeat (first | refine x_then_panic ?_ | refine x_block_panic ?_ | refine x_scope_panic ?_)
      exact x_panic rfl (fun W hW => ⟨by rw [hchk]; rfl, hW.below⟩)
  obtain ⟨t0, ht0⟩ : ∃ t, ts[0]? = some t := ⟨_, List.getElem?_eq_getElem hne⟩
  obtain ⟨ba, oa, rfl, hc0⟩ := ext_at hA.a ht0
  have he0 : Ext w (base w) ba (oa + (0 : Int).toNat * 3) (tpE t0) := ext_of hc0
  unfold tpE at he0
  by_cases hz : t0.bar = 0
  rotate_left
  · have hchk := chk_no (hlim' ()) (no_head (n := n) (ts := ts) (ps := ps) (ss := sp) (by cases ts with | nil => cases ht0 | cons t l => cases ht0; exact decide_eq_false hz))
    repeat' (first | refine l_val rfl rfl (by first | exact pureEval_ok rfl | exact v_load rfl (by repeat (first | exact List.Mem.head _ | apply List.Mem.tail)) rfl (by rfl) | exact v_load_ext0 rfl (by assumption) rfl (by rfl) | exact v_index rfl rfl rfl rfl (by omega) (by omega) (by with_reducible first | exact idx8 _ _ _   | fail)  | fail) ?_ | refine l_nil ?_ | refine c_region ?_ | refine c_seq ?_ | refine x_then ?_ | refine l_dec_t rfl rfl rfl rfl rfl (by first | omega  | fail) ?_ | (refine r_call rfl rfl rfl (fun W hW => in_calls _ _ _ W) ?_)  | fail)
    all_goals
      refine r_callP rfl rfl (fun W hW => need_no2 (by first | rfl | exact decide_eq_false (by omega)) _ W) ?_
      repeat (first | refine x_then_panic ?_ | refine x_block_panic ?_ | refine x_scope_panic ?_)
      exact x_panic rfl (fun W hW => ⟨by rw [hchk]; rfl, hW.below⟩)
  repeat (first | refine l_val rfl rfl (by first | exact pureEval_ok rfl | exact v_load rfl (by repeat (first | exact List.Mem.head _ | apply List.Mem.tail)) rfl (by rfl) | exact v_load_ext0 rfl (by assumption) rfl (by rfl) | exact v_index rfl rfl rfl rfl (by omega) (by omega) (by with_reducible first | exact idx8 _ _ _   | fail)  | fail) ?_ | refine l_nil ?_ | refine c_region ?_ | refine c_seq ?_ | refine x_then ?_ | refine l_dec_t rfl rfl rfl rfl rfl (by first | omega  | fail) ?_ | (refine r_call rfl rfl rfl (fun W hW => in_calls _ _ _ W) ?_)  | fail)
  refine r_call rfl rfl rfl (fun W hW => need_ok2 (by first | rfl | exact decide_eq_true (by omega)) _ W) ?_
  clear he0 hc0
  have hh0 : head0 ts = true := by cases ts with | nil => cases ht0 | cons t l => cases ht0; exact decide_eq_true hz
  clear hz ht0
  repeat (first | refine l_val rfl rfl (by first | exact pureEval_ok rfl | exact v_load rfl (by repeat (first | exact List.Mem.head _ | apply List.Mem.tail)) rfl (by rfl)  | fail) ?_ | refine l_nil ?_ | refine c_region ?_ | refine c_seq ?_ | refine x_then ?_ | refine c_block ?_  | fail)
  refine c_loop (ι := Nat × Int) (fun q => q.1 ≤ ts.length ∧ -1 ≤ q.2 ∧ q.2 ≤ 4096 ∧ asc (-1) n ts = asc q.2 n (ts.drop q.1)) (fun q => [(1, .pointer (some ⟨b1, 0, none⟩)), (2, .int .i64 q.2), (44, .slice (some ⟨ba, oa, none⟩) ts.length ca), (45, .int .i64 ts.length), (46, .int .i64 q.1)]) (fun _ => [(b1, .cells ⟨[.int .i64 n, .slice (some ⟨ba, oa, none⟩) ts.length ca, .slice B ps.length cb, .slice C sp.length cc]⟩ 28 (0, 0))]) (fun q => ts.length - q.1) (0, -1) ⟨by omega, by omega, by simp only; omega, rfl⟩ (by repeat (first | exact EnvSub.nil | refine EnvSub.cons rfl (by first | rfl | (congr 1; done) | (exact congrArg (Value.int _) (by omega)) | (simp; done)) ?_)) (by repeat (first | exact MSub.nil | refine MSub.keep (by first | rfl | assumption) ?_ | refine MSub.drop ?_ | exact MSub.refl _)) ?_
  rintro ⟨k, last⟩ ⟨i1, i2, i3, i4⟩
  simp only at i1 i2 i3 i4 ⊢
  by_cases hlt : k < ts.length
  · obtain ⟨t, ht⟩ : ∃ t, ts[k]? = some t := ⟨_, List.getElem?_eq_getElem hlt⟩
    obtain ⟨b', o', h', hc⟩ := ext_at hA.a ht
    cases h'
    have he := ext_of hc
    unfold tpE at he
    rw [drop_cons ht] at i4
    by_cases hg : (last + 1 ≤ t.bar ∧ t.bar ≤ n - 1) ∧ (-65536 ≤ t.ticks ∧ t.ticks ≤ 65536) ∧ (-65536 ≤ t.step ∧ t.step ≤ 65536)
    · have hg' : Unit → asc last n (t :: ts.drop (k + 1)) = asc t.bar n (ts.drop (k + 1)) := fun _ => asc_yes hg.1 hg.2.1 hg.2.2
      obtain ⟨⟨g1, g2⟩, ⟨g3, g4⟩, g5, g6⟩ := hg
      repeat (first | refine l_val rfl rfl (by first | exact v_add rfl rfl (by omega) (by omega) | exact v_sub rfl rfl (by omega) (by omega) | exact pureEval_ok rfl | exact v_load rfl (by repeat (first | exact List.Mem.head _ | apply List.Mem.tail)) rfl (by rfl) | exact v_load_ext0 rfl (by assumption) rfl (by rfl) | exact v_index rfl rfl rfl rfl (by omega) (by omega) (by with_reducible first | exact idx4 _ _ _   | fail)  | fail) ?_ | refine l_nil ?_ | refine c_region ?_ | refine c_seq ?_ | refine x_then ?_ | refine r_alloc rfl rfl rfl (by first | exact aggL  | fail) (fun _ => ?_) | refine r_store rfl rfl rfl rfl rfl rfl rfl (by repeat (first | exact Upd.head | apply Upd.tail)) (by rfl) ?_ | refine c_dec_t rfl (by first | omega  | fail) ?_ | refine c_block ?_ | refine c_skip ?_ | refine l_dec_t rfl rfl rfl rfl rfl (by first | omega  | fail) ?_ | (refine r_call rfl rfl rfl (fun W hW => in_calls _ _ _ W) ?_)  | fail)
      refine r_call rfl rfl rfl (fun W hW => need_ok2 (by first | rfl | exact decide_eq_true (by omega)) _ W) ?_
      repeat (first | refine l_val rfl rfl (by first | exact v_add rfl rfl (by omega) (by omega) | exact pureEval_ok rfl | exact v_load rfl (by repeat (first | exact List.Mem.head _ | apply List.Mem.tail)) rfl (by rfl)  | fail) ?_ | refine l_nil ?_ | refine c_region ?_ | refine x_then ?_ | refine x_block ?_  | fail)
      exact x_back (k + 1, t.bar) ⟨hlt, by simp only; omega, by simp only; omega, i4.trans (hg' ())⟩ (by simp only; omega) (by repeat (first | exact EnvSub.nil | refine EnvSub.cons rfl (by first | rfl | (congr 1; done) | (exact congrArg (Value.int _) (by omega)) | (simp; done)) ?_)) (by repeat (first | exact MSub.nil | refine MSub.keep (by first | rfl | assumption) ?_ | refine MSub.drop ?_ | exact MSub.refl _))
    · have hchk := chk_no (hlim' ()) (no_asc (ps := ps) (ss := sp) (i4.trans (asc_no hg)))
      repeat' (first | refine l_val rfl rfl (by first | exact v_add rfl rfl (by omega) (by omega) | exact v_sub rfl rfl (by omega) (by omega) | exact pureEval_ok rfl | exact v_load rfl (by repeat (first | exact List.Mem.head _ | apply List.Mem.tail)) rfl (by rfl) | exact v_load_ext0 rfl (by assumption) rfl (by rfl) | exact v_index rfl rfl rfl rfl (by omega) (by omega) (by with_reducible first | exact idx4 _ _ _   | fail)  | fail) ?_ | refine l_nil ?_ | refine c_region ?_ | refine c_seq ?_ | refine x_then ?_ | refine l_skip rfl rfl ?_ | refine r_alloc rfl rfl rfl (by first | exact aggL  | fail) (fun _ => ?_) | refine r_store rfl rfl rfl rfl rfl rfl rfl (by repeat (first | exact Upd.head | apply Upd.tail)) (by rfl) ?_ | refine c_dec_t rfl (by first | omega  | fail) ?_ | refine c_block ?_ | refine c_skip ?_ | (refine r_call rfl rfl rfl (fun W hW => in_calls _ _ _ W) ?_) | refine l_dec rfl rfl rfl rfl rfl (fun _ => ?_) (fun _ => ?_)  | fail)
      all_goals
        refine r_callP rfl rfl (fun W hW => need_no2 (by first | rfl | exact decide_eq_false (by omega)) _ W) ?_
        repeat (first | refine x_then_panic ?_ | refine x_block_panic ?_ | refine x_scope_panic ?_)
        exact x_panic rfl (fun W hW => ⟨by rw [hchk]; rfl, hW.below⟩)
  have hk : k = ts.length := by omega
  subst hk
  have ha : asc (-1) n ts = true := by rw [i4, List.drop_length]; rfl
  clear i4 i3 i2 i1
  repeat (first | refine l_val rfl rfl (by first | exact pureEval_ok rfl | exact v_load rfl (by repeat (first | exact List.Mem.head _ | apply List.Mem.tail)) rfl (by rfl)  | fail) ?_ | refine l_nil ?_ | refine c_region ?_ | refine c_seq ?_ | refine x_then ?_ | refine c_dec_f rfl (by first | omega  | fail) ?_ | refine c_block ?_ | refine c_exit ?_ | refine x_then_exit ?_ | refine x_block_same ?_  | fail)
  refine c_loop (ι := Nat) (fun k => (k : Int) ≤ n ∧ ∀ j : Int, 0 ≤ j → j < k → 1 ≤ tk ts j ∧ tk ts j ≤ 65536) (fun k => [(1, .pointer (some ⟨b1, 0, none⟩)), (73, .int .i64 n), (74, .int .i64 k)]) (fun _ => [(b1, .cells ⟨[.int .i64 n, .slice (some ⟨ba, oa, none⟩) ts.length ca, .slice B ps.length cb, .slice C sp.length cc]⟩ 28 (0, 0))]) (fun k => n.toNat - k) 0 ⟨by omega, fun j h1 h2 => by omega⟩ (by repeat (first | exact EnvSub.nil | refine EnvSub.cons rfl (by first | rfl | (congr 1; done) | (exact congrArg (Value.int _) (by omega)) | (simp; done)) ?_)) (by repeat (first | exact MSub.nil | refine MSub.keep (by first | rfl | assumption) ?_ | refine MSub.drop ?_ | exact MSub.refl _)) ?_
  rintro k ⟨i1, i2⟩
  by_cases hlt' : (k : Int) < n
  · have i2' : Unit → ∀ j : Int, 0 ≤ j → j < k → 1 ≤ tk ts j ∧ tk ts j ≤ 65536 := fun _ => i2
    clear i2
    repeat (first | refine l_val rfl rfl (by first | exact pureEval_ok rfl | exact v_load rfl (by repeat (first | exact List.Mem.head _ | apply List.Mem.tail)) rfl (by rfl)  | fail) ?_ | refine l_nil ?_ | refine c_region ?_ | refine c_seq ?_ | refine x_then ?_ | refine c_dec_t rfl (by first | omega  | fail) ?_ | refine c_block ?_ | refine c_skip ?_  | fail)
    refine r_call rfl rfl rfl (fun W hW => ticks_calls (⟨n, ts, ps, sp, some ⟨ba, oa, none⟩, B, C, ca, cb, cc⟩ : Clk) k W hl1 (by simp only; omega) hh0 ha (by omega) (by omega) (hA.sat hW)) ?_
    obtain ⟨x, hx⟩ : ∃ x, tk ts k = x := ⟨_, rfl⟩
    simp only [hx]
    by_cases hg : 1 ≤ x ∧ x ≤ 65536
    · repeat (first | (refine r_call rfl rfl rfl (fun W hW => in_calls _ _ _ W) ?_)  | fail)
      refine r_call rfl rfl rfl (fun W hW => need_ok2 (by first | rfl | exact decide_eq_true (by omega)) _ W) ?_
      repeat (first | refine l_val rfl rfl (by first | exact v_add rfl rfl (by omega) (by omega) | exact pureEval_ok rfl  | fail) ?_ | refine l_nil ?_ | refine c_region ?_ | refine x_then ?_ | refine x_block ?_  | fail)
      refine x_back (k + 1) ⟨by omega, fun j h1 h2 => ?_⟩ (by omega) (by repeat (first | exact EnvSub.nil | refine EnvSub.cons rfl (by first | rfl | (congr 1; done) | (exact congrArg (Value.int _) (by omega)) | (simp; done)) ?_)) (by repeat (first | exact MSub.nil | refine MSub.keep (by first | rfl | assumption) ?_ | refine MSub.drop ?_ | exact MSub.refl _))
      by_cases hjk : j = k
      · subst hjk; rw [hx]; exact hg
      · exact i2' () j h1 (by omega)
    · have hchk := chk_no (hlim' ()) (no_bars (ts := ts) (n := n) (ps := ps) (ss := sp) (by
        rw [Bool.eq_false_iff]; intro h; have := okBars_iff.1 h k (by omega) hlt'; rw [hx] at this; exact hg this))
      repeat' (first | (refine r_call rfl rfl rfl (fun W hW => in_calls _ _ _ W) ?_)  | fail)
      all_goals
        refine r_callP rfl rfl (fun W hW => need_no2 (by first | rfl | exact decide_eq_false (by omega)) _ W) ?_
        repeat (first | refine x_then_panic ?_ | refine x_block_panic ?_ | refine x_scope_panic ?_)
        exact x_panic rfl (fun W hW => ⟨by rw [hchk]; rfl, hW.below⟩)
  have hbars : okBars ts n = true := okBars_iff.2 fun j h1 h2 => i2 j h1 (by omega)
  clear i2
  repeat (first | refine l_val rfl rfl (by first | exact pureEval_ok rfl | exact v_load rfl (by repeat (first | exact List.Mem.head _ | apply List.Mem.tail)) rfl (by rfl)  | fail) ?_ | refine l_nil ?_ | refine c_region ?_ | refine c_seq ?_ | refine x_then ?_ | refine c_dec_f rfl (by first | omega  | fail) ?_ | refine c_block ?_ | refine c_exit ?_ | refine x_then_exit ?_ | refine x_block_same ?_  | fail)
  refine c_loop (ι := Nat × Int) (fun q => q.1 ≤ ps.length ∧ -1 ≤ q.2 ∧ q.2 ≤ 4096 ∧ ascP (-1) n ps = ascP q.2 n (ps.drop q.1)) (fun q => [(1, .pointer (some ⟨b1, 0, none⟩)), (2, .int .i64 q.2), (84, .slice B ps.length cb), (85, .int .i64 ps.length), (86, .int .i64 q.1)]) (fun _ => [(b1, .cells ⟨[.int .i64 n, .slice (some ⟨ba, oa, none⟩) ts.length ca, .slice B ps.length cb, .slice C sp.length cc]⟩ 28 (0, 0))]) (fun q => ps.length - q.1) (0, -1) ⟨by omega, by omega, by simp only; omega, rfl⟩ (by repeat (first | exact EnvSub.nil | refine EnvSub.cons rfl (by first | rfl | (congr 1; done) | (exact congrArg (Value.int _) (by omega)) | (simp; done)) ?_)) (by repeat (first | exact MSub.nil | refine MSub.keep (by first | rfl | assumption) ?_ | refine MSub.drop ?_ | exact MSub.refl _)) ?_
  rintro ⟨k, last⟩ ⟨i1, i2, i3, i4⟩
  simp only at i1 i2 i3 i4 ⊢
  by_cases hlt : k < ps.length
  · obtain ⟨t, ht⟩ : ∃ t, ps[k]? = some t := ⟨_, List.getElem?_eq_getElem hlt⟩
    obtain ⟨b', o', rfl, hc⟩ := ext_at hA.b ht
    have he := ext_of hc
    unfold psE at he
    rw [drop_cons ht] at i4
    by_cases hg : (last + 1 ≤ t.bar ∧ t.bar ≤ n - 2) ∧ (1 ≤ t.kind ∧ t.kind ≤ 2) ∧ (0 ≤ t.lo ∧ t.lo ≤ t.hi) ∧ t.hi ≤ 1048576
    · have hg' : Unit → ascP last n (t :: ps.drop (k + 1)) = ascP t.bar n (ps.drop (k + 1)) := fun _ => ascP_yes hg.1 hg.2.1 hg.2.2.1 hg.2.2.2
      obtain ⟨⟨g1, g2⟩, ⟨g3, g4⟩, ⟨g5, g6⟩, g7⟩ := hg
      repeat (first | refine l_val rfl rfl (by first | exact v_add rfl rfl (by omega) (by omega) | exact v_sub rfl rfl (by omega) (by omega) | exact pureEval_ok rfl | exact v_load rfl (by repeat (first | exact List.Mem.head _ | apply List.Mem.tail)) rfl (by rfl) | exact v_load_ext0 rfl (by assumption) rfl (by rfl) | exact v_index rfl rfl rfl rfl (by omega) (by omega) (by with_reducible first | exact idx4 _ _ _   | fail)  | fail) ?_ | refine l_nil ?_ | refine c_region ?_ | refine c_seq ?_ | refine x_then ?_ | refine r_alloc rfl rfl rfl (by first | exact aggL  | fail) (fun _ => ?_) | refine r_store rfl rfl rfl rfl rfl rfl rfl (by repeat (first | exact Upd.head | apply Upd.tail)) (by rfl) ?_ | refine c_dec_t rfl (by first | omega  | fail) ?_ | refine c_block ?_ | refine c_skip ?_ | refine l_dec_t rfl rfl rfl rfl rfl (by first | omega  | fail) ?_ | (refine r_call rfl rfl rfl (fun W hW => in_calls _ _ _ W) ?_)  | fail)
      refine r_call rfl rfl rfl (fun W hW => need_ok2 (by first | rfl | exact decide_eq_true (by omega)) _ W) ?_
      repeat (first | refine l_val rfl rfl (by first | exact v_add rfl rfl (by omega) (by omega) | exact pureEval_ok rfl | exact v_load rfl (by repeat (first | exact List.Mem.head _ | apply List.Mem.tail)) rfl (by rfl)  | fail) ?_ | refine l_nil ?_ | refine c_region ?_ | refine x_then ?_ | refine x_block ?_  | fail)
      exact x_back (k + 1, t.bar) ⟨hlt, by simp only; omega, by simp only; omega, i4.trans (hg' ())⟩ (by simp only; omega) (by repeat (first | exact EnvSub.nil | refine EnvSub.cons rfl (by first | rfl | (congr 1; done) | (exact congrArg (Value.int _) (by omega)) | (simp; done)) ?_)) (by repeat (first | exact MSub.nil | refine MSub.keep (by first | rfl | assumption) ?_ | refine MSub.drop ?_ | exact MSub.refl _))
    · have hchk := chk_no (hlim' ()) (no_ascP (ts := ts) (ss := sp) (i4.trans (ascP_no hg)))
      repeat' (first | refine l_val rfl rfl (by first | exact v_add rfl rfl (by omega) (by omega) | exact v_sub rfl rfl (by omega) (by omega) | exact pureEval_ok rfl | exact v_load rfl (by repeat (first | exact List.Mem.head _ | apply List.Mem.tail)) rfl (by rfl) | exact v_load_ext0 rfl (by assumption) rfl (by rfl) | exact v_index rfl rfl rfl rfl (by omega) (by omega) (by with_reducible first | exact idx4 _ _ _   | fail)  | fail) ?_ | refine l_nil ?_ | refine c_region ?_ | refine c_seq ?_ | refine x_then ?_ | refine l_skip rfl rfl ?_ | refine r_alloc rfl rfl rfl (by first | exact aggL  | fail) (fun _ => ?_) | refine r_store rfl rfl rfl rfl rfl rfl rfl (by repeat (first | exact Upd.head | apply Upd.tail)) (by rfl) ?_ | refine c_dec_t rfl (by first | omega  | fail) ?_ | refine c_block ?_ | refine c_skip ?_ | (refine r_call rfl rfl rfl (fun W hW => in_calls _ _ _ W) ?_) | refine l_dec rfl rfl rfl rfl rfl (fun _ => ?_) (fun _ => ?_)  | fail)
      all_goals
        refine r_callP rfl rfl (fun W hW => need_no2 (by first | rfl | exact decide_eq_false (by omega)) _ W) ?_
        repeat (first | refine x_then_panic ?_ | refine x_block_panic ?_ | refine x_scope_panic ?_)
        exact x_panic rfl (fun W hW => ⟨by rw [hchk]; rfl, hW.below⟩)
  have hk : k = ps.length := by omega
  subst hk
  have hp : ascP (-1) n ps = true := by rw [i4, List.drop_length]; rfl
  clear i4 i3 i2 i1
  repeat (first | refine l_val rfl rfl (by first | exact pureEval_ok rfl | exact v_load rfl (by repeat (first | exact List.Mem.head _ | apply List.Mem.tail)) rfl (by rfl)  | fail) ?_ | refine l_nil ?_ | refine c_region ?_ | refine c_seq ?_ | refine x_then ?_ | refine c_dec_f rfl (by first | omega  | fail) ?_ | refine c_block ?_ | refine c_exit ?_ | refine x_then_exit ?_ | refine x_block_same ?_  | fail)
  refine c_loop (ι := Nat) (fun k => k ≤ sp.length ∧ sp.all (okSp n) = (sp.drop k).all (okSp n)) (fun k => [(1, .pointer (some ⟨b1, 0, none⟩)), (120, .slice C sp.length cc), (121, .int .i64 sp.length), (122, .int .i64 k)]) (fun _ => [(b1, .cells ⟨[.int .i64 n, .slice (some ⟨ba, oa, none⟩) ts.length ca, .slice B ps.length cb, .slice C sp.length cc]⟩ 28 (0, 0))]) (fun k => sp.length - k) 0 ⟨by omega, rfl⟩ (by repeat (first | exact EnvSub.nil | refine EnvSub.cons rfl (by first | rfl | (congr 1; done) | (exact congrArg (Value.int _) (by omega)) | (simp; done)) ?_)) (by repeat (first | exact MSub.nil | refine MSub.keep (by first | rfl | assumption) ?_ | refine MSub.drop ?_ | exact MSub.refl _)) ?_
  rintro k ⟨i1, i4⟩
  by_cases hlt : k < sp.length
  · obtain ⟨t, ht⟩ : ∃ t, sp[k]? = some t := ⟨_, List.getElem?_eq_getElem hlt⟩
    obtain ⟨b', o', rfl, hc⟩ := ext_at hA.c ht
    have he := ext_of hc
    unfold spE at he
    rw [drop_cons ht, List.all_cons] at i4
    by_cases hg : (0 ≤ t.f ∧ t.f ≤ n) ∧ (0 ≤ t.t ∧ t.t ≤ n) ∧ t.f ≠ t.t ∧ (-1099511627776 ≤ t.lo ∧ t.lo ≤ t.hi) ∧ t.hi ≤ 1099511627776
    · rw [okSp_iff.2 hg, Bool.true_and] at i4
      obtain ⟨⟨g1, g2⟩, ⟨g3, g4⟩, g5, ⟨g6, g7⟩, g8⟩ := hg
      repeat (first | refine l_val rfl rfl (by first | exact pureEval_ok rfl | exact v_load rfl (by repeat (first | exact List.Mem.head _ | apply List.Mem.tail)) rfl (by rfl) | exact v_load_ext0 rfl (by assumption) rfl (by rfl) | exact v_index rfl rfl rfl rfl (by omega) (by omega) (by with_reducible first | exact idx4 _ _ _   | fail)  | fail) ?_ | refine l_nil ?_ | refine c_region ?_ | refine c_seq ?_ | refine x_then ?_ | refine r_alloc rfl rfl rfl (by first | exact aggL  | fail) (fun _ => ?_) | refine r_store rfl rfl rfl rfl rfl rfl rfl (by repeat (first | exact Upd.head | apply Upd.tail)) (by rfl) ?_ | refine c_dec_t rfl (by first | omega  | fail) ?_ | refine c_block ?_ | refine c_skip ?_ | refine l_dec_t rfl rfl rfl rfl rfl (by first | omega  | fail) ?_ | (refine r_call rfl rfl rfl (fun W hW => in_calls _ _ _ W) ?_)  | fail)
      refine r_call rfl rfl rfl (fun W hW => need_ok2 (by first | rfl | exact decide_eq_true (by omega)) _ W) ?_
      repeat (first | refine l_val rfl rfl (by first | exact v_add rfl rfl (by omega) (by omega) | exact pureEval_ok rfl  | fail) ?_ | refine l_nil ?_ | refine c_region ?_ | refine x_then ?_ | refine x_block ?_  | fail)
      exact x_back (k + 1) ⟨hlt, i4⟩ (by omega) (by repeat (first | exact EnvSub.nil | refine EnvSub.cons rfl (by first | rfl | (congr 1; done) | (exact congrArg (Value.int _) (by omega)) | (simp; done)) ?_)) (by repeat (first | exact MSub.nil | refine MSub.keep (by first | rfl | assumption) ?_ | refine MSub.drop ?_ | exact MSub.refl _))
    · have hchk := chk_no (hlim' ()) (no_sp (ts := ts) (ps := ps) (i4.trans (by rw [Bool.eq_false_iff.2 fun h => hg (okSp_iff.1 h)]; rfl)))
      repeat' (first | refine l_val rfl rfl (by first | exact pureEval_ok rfl | exact v_load rfl (by repeat (first | exact List.Mem.head _ | apply List.Mem.tail)) rfl (by rfl) | exact v_load_ext0 rfl (by assumption) rfl (by rfl) | exact v_index rfl rfl rfl rfl (by omega) (by omega) (by with_reducible first | exact idx4 _ _ _   | fail)  | fail) ?_ | refine l_nil ?_ | refine c_region ?_ | refine c_seq ?_ | refine x_then ?_ | refine l_skip rfl rfl ?_ | refine r_alloc rfl rfl rfl (by first | exact aggL  | fail) (fun _ => ?_) | refine r_store rfl rfl rfl rfl rfl rfl rfl (by repeat (first | exact Upd.head | apply Upd.tail)) (by rfl) ?_ | refine c_dec_t rfl (by first | omega  | fail) ?_ | refine c_block ?_ | refine c_skip ?_ | (refine r_call rfl rfl rfl (fun W hW => in_calls _ _ _ W) ?_) | refine l_dec rfl rfl rfl rfl rfl (fun _ => ?_) (fun _ => ?_)  | fail)
      all_goals
        refine r_callP rfl rfl (fun W hW => need_no2 (by first | rfl | exact decide_eq_false (by omega)) _ W) ?_
        repeat (first | refine x_then_panic ?_ | refine x_block_panic ?_ | refine x_scope_panic ?_)
        exact x_panic rfl (fun W hW => ⟨by rw [hchk]; rfl, hW.below⟩)
  have hk : k = sp.length := by omega
  subst hk
  have hs : sp.all (okSp n) = true := by rw [i4, List.drop_length]; rfl
  have hchk := chk_yes (hlim' ()) hn hh0 ha hbars hp hs
  repeat (first | refine l_val rfl rfl (by first | exact pureEval_ok rfl  | fail) ?_ | refine l_nil ?_ | refine c_region ?_ | refine c_seq ?_ | refine x_then ?_ | refine c_dec_f rfl (by first | omega  | fail) ?_ | refine c_exit ?_ | refine x_then_exit ?_ | refine x_block_same ?_  | fail)
  exact x_end rfl rfl (by repeat (first | exact Res.nil | (apply Res.tmp; rfl) | (apply Res.cell; rfl; exact (by repeat (first | exact List.Mem.head _ | apply List.Mem.tail)); rfl; rfl))) rfl (fun W hW => ⟨by rw [hchk]; rfl, hW.below⟩)
end R13
end Go.Proofs

set_option linter.unusedSectionVars false
set_option linter.unusedVariables false
set_option linter.unusedSimpArgs false
namespace Go.Proofs
open Go.RowKit Go.Kin Go.Kin.Tm
namespace R13
set_option maxHeartbeats 4000000
theorem check_calls (c : Clk) (w : World) (hl1 : c.ts.length ≤ 5000) (hl2 : c.ps.length ≤ 5000) (hl3 : c.sp.length ≤ 5000) (hA : c.In w) :
    Calls Try.prog 35 ⟨[.agg ⟨c.v⟩]⟩ w fun e w' => e = .returned (.int .i64 (chk c.n c.ts c.ps c.sp)) ∧ Below w.heap.size w w' := by
  obtain ⟨k, hk⟩ : ∃ k, chk c.n c.ts c.ps c.sp = k := ⟨_, rfl⟩
  have hv := fun W (hA : c.In W) => validate_calls c W hl1 hl2 hl3 hA
  rw [hk] at hv ⊢
  refine fun_enter Try.func35 rfl Try.ntmps35 rfl rfl (satW_nil w) ?_
  repeat (first | refine l_val rfl rfl (by first | exact pureEval_ok rfl  | fail) ?_ | refine l_nil ?_ | refine c_region ?_ | refine c_seq ?_ | refine x_then ?_ | refine r_box rfl rfl rfl rfl (fun _ => ?_) | refine r_alloc rfl rfl rfl (by first | exact aggL  | fail) (fun _ => ?_)  | fail)
  refine l_defer rfl rfl rfl rfl ?_
  repeat (first | refine l_val rfl rfl (by first | exact v_load rfl (by repeat (first | exact List.Mem.head _ | apply List.Mem.tail)) rfl (by rfl)  | fail) ?_ | refine l_nil ?_ | refine c_region ?_ | refine c_seq ?_ | refine x_then ?_  | fail)
  rename_i b1 b2
  by_cases h0 : k = 0
  · subst h0
    refine r_call rfl rfl rfl (fun W hW => hv W (hA.sat hW)) ?_
    repeat (first | refine l_nil ?_ | refine c_region ?_ | refine c_seq ?_ | refine x_then ?_ | refine r_store rfl rfl rfl rfl rfl rfl rfl (by repeat (first | exact Upd.head | apply Upd.tail)) (by rfl) ?_ | refine c_ret ?_  | fail)
    exact x_ret_d rfl (fun W => by simp only [invoke]; rw [Ent.ok (P := Try.prog) (f := 61)]; rfl) (fun W hW => door_idle hW) rfl (fun _ => (by repeat (first | exact Res.nil | (apply Res.tmp; rfl) | (apply Res.cell; rfl; exact (by repeat (first | exact List.Mem.head _ | apply List.Mem.tail)); rfl; rfl)))) (fun _ => rfl) (fun _ W hW => ⟨rfl, hW.below⟩)
  · refine r_callP (ch := pan k) rfl rfl (fun W hW => (hv W (hA.sat hW)).mono fun e W' h => ⟨h.1.trans (if_neg h0), h.2⟩) ?_
    repeat (first | refine x_then_panic ?_ | refine x_block_panic ?_ | refine x_scope_panic ?_)
    exact x_panic_d rfl (fun W => by simp only [invoke]; rw [Ent.ok (P := Try.prog) (f := 61)]; rfl) (fun W hW => door_pan hW) rfl (fun _ => (by repeat (first | exact Res.nil | (apply Res.tmp; rfl) | (apply Res.cell; rfl; exact (by repeat (first | exact List.Mem.head _ | apply List.Mem.tail)); rfl; rfl)))) (fun _ => rfl) (fun _ W hW => ⟨rfl, hW.below⟩)
end R13
end Go.Proofs
