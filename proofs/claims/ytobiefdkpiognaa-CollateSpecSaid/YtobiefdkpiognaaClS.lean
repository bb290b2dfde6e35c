/- Collating: the examples' signs and witnesses; few witnesses. -/
import Derived.Test.YtobiefdkpiognaaClQ
set_option linter.unusedSectionVars false
set_option linter.unusedVariables false
set_option linter.unusedSimpArgs false
namespace Go.Proofs
open Go.RowKit Go.Kin Go.Kin.Cl
namespace R41
def sgn (n : Int) : Sg := ⟨0, 0, 0, 1, 1, 0, 0, 0, n, 0, 0, 1, 1, 1⟩
theorem sign_calls (n : Int) (w : World) : Calls Try.prog 33 ⟨[.int .i64 n]⟩ w fun e w' => e = .returned (.agg ⟨sgE (sgn n)⟩) ∧ Below w.heap.size w w' := by
  refine fun_enter Try.func33 rfl Try.ntmps33 rfl rfl (satW_nil w) ?_
  repeat (first | refine l_val rfl rfl (by first | exact pureEval_ok rfl | exact v_build rfl rfl (by rfl) ) ?_ | refine l_nil ?_ | refine c_region ?_ | refine c_seq ?_ | refine x_then ?_ | refine r_alloc rfl rfl rfl (by first | exact aggL ) (fun _ => ?_) | refine r_store rfl rfl rfl rfl rfl rfl rfl (by repeat (first | exact Upd.head | apply Upd.tail)) (by rfl) ?_ | refine c_ret ?_ )
  exact x_ret rfl rfl (by repeat (first | exact Res.nil | (apply Res.tmp; rfl) | (apply Res.cell; rfl; exact (by repeat (first | exact List.Mem.head _ | apply List.Mem.tail)); rfl; rfl))) rfl (fun W hW => ⟨rfl, hW.below⟩)
def rdN (n : Int) : Rd := if n = 0 then ⟨true, sg0⟩ else ⟨false, sgn n⟩
def flatD (l : List Rd) : List Value := (l.map rdE).flatten
theorem flatD_len (l : List Rd) : (flatD l).length = l.length * 15 := by
  induction l with
  | nil => rfl
  | cons x l ih => unfold flatD at ih ⊢; rw [List.map_cons, List.flatten_cons, List.length_append, ih, show (rdE x).length = 15 from rfl, show (x :: l).length = l.length + 1 from rfl]; omega
theorem flatD_snoc (l : List Rd) (x : Rd) : flatD (l ++ [x]) = flatD l ++ rdE x := by unfold flatD; rw [List.map_append, List.flatten_append]; simp
inductive DS where
  | zero
  | more (n bp c : Nat) (r : List Value) (l : List Rd)
def DS.sv : DS → Value
  | .zero => .slice Option.none 0 0
  | .more n bp c _ _ => .slice (Option.some ⟨bp, 0, Option.none⟩) n c
def DS.mem : DS → List (Nat × Obj)
  | .zero => []
  | .more _ bp _ r l => [(bp, .cells ⟨flatD l ++ r⟩ 72 (0, 0))]
def DS.l : DS → List Rd
  | .zero => []
  | .more _ _ _ _ l => l
def DS.ok : DS → Prop
  | .zero => True
  | .more n _ c r l => 0 < n ∧ l.length = n ∧ Grow 15 n (flatD l) c r
/-- a witness that has been made -/
def WitQ (no : Int) (sizes : List Int) (w : World) (e : Ending) (w' : World) : Prop :=
  Below w.heap.size w w' ∧ ((sizes = [] ∧ e = .returned (.agg ⟨[.int .i64 no, .int .i64 1913, .slice none 0 0]⟩)) ∨ (sizes ≠ [] ∧ ∃ b c r, e = .returned (.agg ⟨[.int .i64 no, .int .i64 1913, .slice (some ⟨b, 0, none⟩) sizes.length c]⟩) ∧ w.heap.size ≤ b ∧ w'.heap[b]? = some (.cells ⟨flatD (sizes.map rdN) ++ r⟩ 72 (0, 0))))
theorem rdE_len (l : List Rd) : ∀ r ∈ l.map rdE, r.length = 15 := fun r hr => by obtain ⟨x, _, rfl⟩ := List.mem_map.1 hr; rfl
set_option maxRecDepth 100000 in
set_option maxHeartbeats 40000000 in
theorem witness_calls (no : Int) (sizes : List Int) (A : Option Addr) (cap : Nat) (w : World) (hl : sizes.length ≤ 1000) (hA : Kin.At w A 1 (sizes.map inE)) : Calls Try.prog 34 ⟨[.int .i64 no, .slice A sizes.length cap]⟩ w (WitQ no sizes w) := by
  refine fun_enter Try.func34 rfl Try.ntmps34 rfl rfl (satW_nil w) ?_
  repeat (first | refine l_val rfl rfl (by first | exact pureEval_ok rfl | exact v_build rfl rfl (by rfl) ) ?_ | refine l_nil ?_ | refine c_region ?_ | refine c_seq ?_ | refine x_then ?_ | refine r_alloc rfl rfl rfl (by first | exact aggL ) (fun _ => ?_) | refine r_store rfl rfl rfl rfl rfl rfl rfl (by repeat (first | exact Upd.head | apply Upd.tail)) (by rfl) ?_ | refine c_block ?_ )
  rename_i b4 b5
  refine c_loop (ι := Nat × DS) (fun (k, s) => k ≤ sizes.length ∧ s.ok ∧ (Unit → s.l = (sizes.take k).map rdN)) (fun (k, s) => [(4, .pointer (some ⟨b4, 0, none⟩)), (5, .pointer (some ⟨b5, 0, none⟩)), (10, .slice A sizes.length cap), (11, .int .i64 sizes.length), (12, .int .i64 k)])
    (fun (k, s) => s.mem ++ [(b5, .cells ⟨[.int .i64 no, .int .i64 1913, s.sv]⟩ 37 (0, 0)), (b4, .cells ⟨[.int .i64 0, .int .i64 0, .slice none 0 0]⟩ 37 (0, 0))]) (fun (k, s) => sizes.length - k) (0, .zero) ⟨by omega, trivial, fun _ => rfl⟩ (by repeat (first | exact EnvSub.nil | refine EnvSub.cons rfl (by first | rfl | (congr 1; done) | (exact congrArg (Value.int _) (by omega)) | (simp; done)) ?_)) (by repeat (first | exact MSub.nil | refine MSub.keep (by first | rfl | assumption) ?_ | refine MSub.drop ?_ | exact MSub.refl _)) ?_
  rintro ⟨k, s⟩ ⟨hk, hs, hM⟩
  have hlen : s.l.length = k := by rw [hM (), List.length_map, List.length_take]; exact Nat.min_eq_left hk
  by_cases hlt : k < sizes.length
  rotate_left
  · have hkl : k = sizes.length := by omega
    subst hkl
    have hfin := hM ()
    rw [List.take_length] at hfin
    clear hM
    rcases s with _ | ⟨n, bp, c, r, l⟩
    · have he : sizes.map rdN = [] := hfin.symm
      have hn0 : sizes.length = 0 := by rw [← hlen]; rfl
      simp only [DS.sv, DS.mem, List.nil_append]
      repeat (first | refine l_val rfl rfl (by first | exact pureEval_ok rfl | exact v_load rfl (by repeat (first | exact List.Mem.head _ | apply List.Mem.tail)) rfl (by rfl) ) ?_ | refine l_nil ?_ | refine c_region ?_ | refine c_seq ?_ | refine x_then ?_ | refine r_store rfl rfl rfl rfl rfl rfl rfl (by repeat (first | exact Upd.head | apply Upd.tail)) (by rfl) ?_ | refine c_dec_f rfl (by first | omega ) ?_ | refine c_ret ?_ | refine c_exit ?_ | refine x_then_exit ?_ | refine x_block_same ?_ )
      exact x_ret rfl rfl (by repeat (first | exact Res.nil | (apply Res.tmp; rfl) | (apply Res.cell; rfl; exact (by repeat (first | exact List.Mem.head _ | apply List.Mem.tail)); rfl; rfl))) rfl (fun W hW => ⟨hW.below, .inl ⟨List.length_eq_zero_iff.1 hn0, rfl⟩⟩)
    · obtain ⟨g1, g2, g3⟩ := hs
      have he : sizes.map rdN = l := hfin.symm
      simp only [DS.sv, DS.mem, List.cons_append, List.nil_append]
      repeat (first | refine l_val rfl rfl (by first | exact pureEval_ok rfl | exact v_load rfl (by repeat (first | exact List.Mem.head _ | apply List.Mem.tail)) rfl (by rfl) ) ?_ | refine l_nil ?_ | refine c_region ?_ | refine c_seq ?_ | refine x_then ?_ | refine r_store rfl rfl rfl rfl rfl rfl rfl (by repeat (first | exact Upd.head | apply Upd.tail)) (by rfl) ?_ | refine c_dec_f rfl (by first | omega ) ?_ | refine c_ret ?_ | refine c_exit ?_ | refine x_then_exit ?_ | refine x_block_same ?_ )
      have hn : n = sizes.length := by rw [← g2]; exact hlen
      refine x_ret rfl rfl (by repeat (first | exact Res.nil | (apply Res.tmp; rfl) | (apply Res.cell; rfl; exact (by repeat (first | exact List.Mem.head _ | apply List.Mem.tail)); rfl; rfl))) rfl (fun W hW => ⟨hW.below, .inr ⟨fun h => by rw [h] at hn; simp at hn; omega, bp, c, r, ?_, Nat.le_of_not_lt (hW.own (bp, _) (by repeat (first | exact List.Mem.head _ | apply List.Mem.tail))).1, by rw [he]; exact (hW.own (bp, _) (by repeat (first | exact List.Mem.head _ | apply List.Mem.tail))).2⟩⟩)
      first | (rw [← hn]; done) | (rw [← hn]; rfl)
  obtain ⟨z, hz⟩ : ∃ z, sizes[k]? = some z := ⟨_, List.getElem?_eq_getElem hlt⟩
  obtain ⟨b2, o2, rfl, e2⟩ := ext_at hA hz
  have g2 := ext_of e2
  rw [Nat.mul_one] at g2
  have hts := take_snoc (f := rdN) hz
  by_cases hz0 : z = 0
  · have hr : rdN z = ⟨true, sg0⟩ := if_pos hz0
    rw [hr] at hts
    rcases s with _ | ⟨n, bp, c, rr, l⟩
    · have hk0 : k = 0 := hlen.symm
      subst hk0
      have hM' : Unit → [(⟨true, sg0⟩ : Rd)] = (sizes.take (0 + 1)).map rdN := fun _ => by rw [hts]; rfl
      simp only [DS.sv, DS.mem, List.nil_append]
      clear hts hM
      repeat (first | refine l_val rfl rfl (by first | exact pureEval_ok rfl | exact v_load rfl (by repeat (first | exact List.Mem.head _ | apply List.Mem.tail)) rfl (by rfl) | exact v_load_ext0 rfl (by assumption) rfl (by rfl) | exact v_index rfl rfl rfl rfl (by omega) (by omega) (by with_reducible first | exact idx2 _ _  ) | exact v_build rfl rfl (by rfl) ) ?_ | refine l_nil ?_ | refine c_region ?_ | refine c_seq ?_ | refine x_then ?_ | refine r_buildSlice rfl rfl rfl rfl rfl rfl (by rfl) (fun _ => ?_) | refine c_dec_t rfl (by first | omega ) ?_ | refine c_block ?_ | refine c_skip ?_ )
      refine r_append_nil (m := 1) (ys := rdE ⟨true, sg0⟩) rfl rfl rfl rfl rfl rfl (news_own (by repeat (first | exact List.Mem.head _ | apply List.Mem.tail))) rfl rfl (by decide) (by decide) (by decide) (fun b7 c7 r7 hg7 => ?_)
      repeat (first | refine l_val rfl rfl (by first | exact v_add rfl rfl (by omega) (by omega) | exact pureEval_ok rfl ) ?_ | refine l_nil ?_ | refine c_region ?_ | refine x_then ?_ | refine r_store rfl rfl rfl rfl rfl rfl rfl (by repeat (first | exact Upd.head | apply Upd.tail)) (by rfl) ?_ | refine c_exit ?_ | refine x_then_exit ?_ | refine x_block_same ?_ )
      exact x_back (0 + 1, .more 1 b7 c7 r7 [(⟨true, sg0⟩ : Rd)]) ⟨hlt, ⟨by decide, rfl, hg7⟩, hM'⟩ (by simp only; omega) (by repeat (first | exact EnvSub.nil | refine EnvSub.cons rfl (by first | rfl | (congr 1; done) | (exact congrArg (Value.int _) (by omega)) | (simp; done)) ?_)) (by repeat (first | exact MSub.nil | refine MSub.keep (by first | rfl | assumption) ?_ | refine MSub.drop ?_ | exact MSub.refl _))
    · obtain ⟨q1, q2, q3⟩ := hs
      simp only [DS.l] at hlen hM
      have hM' : Unit → l ++ [(⟨true, sg0⟩ : Rd)] = (sizes.take (k + 1)).map rdN := fun _ => by rw [hts, ← hM ()]
      simp only [DS.sv, DS.mem, List.cons_append, List.nil_append]
      clear hts hM
      repeat (first | refine l_val rfl rfl (by first | exact pureEval_ok rfl | exact v_load rfl (by repeat (first | exact List.Mem.head _ | apply List.Mem.tail)) rfl (by rfl) | exact v_load_ext0 rfl (by assumption) rfl (by rfl) | exact v_index rfl rfl rfl rfl (by omega) (by omega) (by with_reducible first | exact idx2 _ _  ) | exact v_build rfl rfl (by rfl) ) ?_ | refine l_nil ?_ | refine c_region ?_ | refine c_seq ?_ | refine x_then ?_ | refine r_buildSlice rfl rfl rfl rfl rfl rfl (by rfl) (fun _ => ?_) | refine c_dec_t rfl (by first | omega ) ?_ | refine c_block ?_ | refine c_skip ?_ )
      refine r_append (m := 1) (ys := rdE ⟨true, sg0⟩) rfl rfl rfl rfl rfl rfl (news_own (by repeat (first | exact List.Mem.head _ | apply List.Mem.tail))) (by repeat (first | exact Rem.head | apply Rem.tail)) q3 rfl rfl (by decide) (by omega) (by unfold maxLen; omega) (fun b7 c7 r7 hg7 => ?_)
      rw [← flatD_snoc] at hg7 ⊢
      repeat (first | refine l_val rfl rfl (by first | exact v_add rfl rfl (by omega) (by omega) | exact pureEval_ok rfl ) ?_ | refine l_nil ?_ | refine c_region ?_ | refine x_then ?_ | refine r_store rfl rfl rfl rfl rfl rfl rfl (by repeat (first | exact Upd.head | apply Upd.tail)) (by rfl) ?_ | refine c_exit ?_ | refine x_then_exit ?_ | refine x_block_same ?_ )
      exact x_back (k + 1, .more (n + 1) b7 c7 r7 (l ++ [(⟨true, sg0⟩ : Rd)])) ⟨hlt, ⟨by omega, by rw [List.length_append, q2]; rfl, hg7⟩, hM'⟩ (by simp only; omega) (by repeat (first | exact EnvSub.nil | refine EnvSub.cons rfl (by first | rfl | (congr 1; done) | (exact congrArg (Value.int _) (by omega)) | (simp; done)) ?_)) (by repeat (first | exact MSub.nil | refine MSub.keep (by first | rfl | assumption) ?_ | refine MSub.drop ?_ | exact MSub.refl _))
  · have hr : rdN z = ⟨false, sgn z⟩ := if_neg hz0
    rw [hr] at hts
    rcases s with _ | ⟨n, bp, c, rr, l⟩
    · have hk0 : k = 0 := hlen.symm
      subst hk0
      have hM' : Unit → [(⟨false, sgn z⟩ : Rd)] = (sizes.take (0 + 1)).map rdN := fun _ => by rw [hts]; rfl
      simp only [DS.sv, DS.mem, List.nil_append]
      clear hts hM
      repeat ((fail_if_success refine c_probe (id := 7) ?_); (fail_if_success refine c_probe1 (id := 7) ?_); first | refine l_val rfl rfl (by first | exact pureEval_ok rfl | exact v_load_ext0 rfl (by assumption) rfl (by rfl) | exact v_index rfl rfl rfl rfl (by omega) (by omega) (by with_reducible first | exact idx2 _ _  ) ) ?_ | refine l_nil ?_ | refine c_region ?_ | refine c_seq ?_ | refine x_then ?_ | refine c_dec_t rfl (by first | omega ) ?_ | refine c_dec_f rfl (by first | omega ) ?_ | refine c_block ?_ | refine c_skip ?_ )
      refine c_new 1 2 [(3, .cal (.agg ⟨sgE (sgn z)⟩)), (5, .new 1), (6, .app 2 none 15), (8, .sto 0 2 1)] [(3,[]),(5,[1]),(6,[2]),(8,[0])] [(1,0),(6,1)] rfl (by decide +kernel) rfl ?_; repeat (first | refine e_val rfl rfl rfl rfl (by first | exact pureEval_ok rfl | exact v_load rfl (by repeat (first | exact List.Mem.head _ | apply List.Mem.tail)) rfl (by rfl) ) ?_ )
      refine e_call rfl rfl rfl rfl rfl (fun W hW => sign_calls z W) ?_
      repeat (first | refine e_val rfl rfl rfl rfl (by first | exact v_build rfl rfl (by rfl) ) ?_ | refine e_new rfl rfl rfl rfl (by first | exact n_buildSlice rfl rfl rfl rfl (by rfl) ) (fun _ => ?_) )
      refine e_app0 (xs := rdE ⟨false, sgn z⟩) (n := 1) (e := 72) rfl rfl rfl rfl (by decide) rfl (by decide) rfl (a_append_nil rfl rfl rfl rfl (news_own (by repeat (first | exact List.Mem.head _ | apply List.Mem.tail))) rfl rfl (by decide) (by decide) (by decide)) (fun b7 c7 r7 hg7 => ?_)
      repeat (first | refine l_val rfl rfl (by first | exact v_add rfl rfl (by omega) (by omega) | exact pureEval_ok rfl ) ?_ | refine l_nil ?_ | refine c_region ?_ | refine x_then ?_ | refine x_block ?_ | refine e_val rfl rfl rfl rfl (by first | exact pureEval_ok rfl ) ?_ | refine e_store rfl rfl rfl rfl rfl rfl rfl rfl (by first | rfl ) rfl rfl (by first | (simp; done) ) (by first | exact splice_lit (by rfl) ) ?_ | refine e_nil rfl ?_ )
      refine x_perm (List.perm_middle (l₁ := [_, _])) ?_
      exact x_back (0 + 1, .more 1 b7 c7 r7 [(⟨false, sgn z⟩ : Rd)]) ⟨hlt, ⟨by decide, rfl, hg7⟩, hM'⟩ (by simp only; omega) (by repeat (first | exact EnvSub.nil | refine EnvSub.cons rfl (by first | rfl | (congr 1; done) | (exact congrArg (Value.int _) (by omega)) | (simp; done)) ?_)) (by repeat (first | exact MSub.nil | refine MSub.keep (by first | rfl | assumption) ?_ | refine MSub.drop ?_ | exact MSub.refl _))
    · obtain ⟨q1, q2, q3⟩ := hs
      simp only [DS.l] at hlen hM
      have hM' : Unit → l ++ [(⟨false, sgn z⟩ : Rd)] = (sizes.take (k + 1)).map rdN := fun _ => by rw [hts, ← hM ()]
      simp only [DS.sv, DS.mem, List.cons_append, List.nil_append]
      clear hts hM
      repeat ((fail_if_success refine c_probe (id := 7) ?_); (fail_if_success refine c_probe1 (id := 7) ?_); first | refine l_val rfl rfl (by first | exact pureEval_ok rfl | exact v_load_ext0 rfl (by assumption) rfl (by rfl) | exact v_index rfl rfl rfl rfl (by omega) (by omega) (by with_reducible first | exact idx2 _ _  ) ) ?_ | refine l_nil ?_ | refine c_region ?_ | refine c_seq ?_ | refine x_then ?_ | refine c_dec_t rfl (by first | omega ) ?_ | refine c_dec_f rfl (by first | omega ) ?_ | refine c_block ?_ | refine c_skip ?_ )
      refine c_new 2 2 [(3, .cal (.agg ⟨sgE (sgn z)⟩)), (5, .new 2), (6, .app 3 (some 0) 15), (8, .sto 1 2 1)] [(3,[]),(5,[2]),(6,[3,0]),(8,[1])] [(1,1),(6,2),(6,0)] rfl (by decide +kernel) rfl ?_; repeat (first | refine e_val rfl rfl rfl rfl (by first | exact pureEval_ok rfl | exact v_load rfl (by repeat (first | exact List.Mem.head _ | apply List.Mem.tail)) rfl (by rfl) ) ?_ )
      refine e_call rfl rfl rfl rfl rfl (fun W hW => sign_calls z W) ?_
      repeat (first | refine e_val rfl rfl rfl rfl (by first | exact v_build rfl rfl (by rfl) ) ?_ | refine e_new rfl rfl rfl rfl (by first | exact n_buildSlice rfl rfl rfl rfl (by rfl) ) (fun _ => ?_) )
      refine e_app (xs := flatD l ++ rdE ⟨false, sgn z⟩) (n := n + 1) (e := 72) rfl rfl rfl rfl rfl (by decide) (by rw [List.length_append, flatD_len, q2]; show n * 15 + 15 = _; omega) (by unfold maxLen; omega) rfl
        (a_append rfl rfl rfl rfl (news_own (by repeat (first | exact List.Mem.head _ | apply List.Mem.tail))) (by repeat (first | exact List.Mem.head _ | apply List.Mem.tail)) q3 rfl (allOne_mem rfl) rfl rfl (by omega) (by unfold maxLen; omega)) (fun b7 c7 r7 hg7 => ?_)
      rw [← flatD_snoc] at hg7 ⊢
      repeat (first | refine l_val rfl rfl (by first | exact v_add rfl rfl (by omega) (by omega) | exact pureEval_ok rfl ) ?_ | refine l_nil ?_ | refine c_region ?_ | refine x_then ?_ | refine x_block ?_ | refine e_val rfl rfl rfl rfl (by first | exact pureEval_ok rfl ) ?_ | refine e_store rfl rfl rfl rfl rfl rfl rfl rfl (by first | rfl ) rfl rfl (by first | (simp; done) ) (by first | exact splice_lit (by rfl) ) ?_ | refine e_nil rfl ?_ )
      refine x_perm (List.perm_middle (l₁ := [_, _])) ?_
      exact x_back (k + 1, .more (n + 1) b7 c7 r7 (l ++ [(⟨false, sgn z⟩ : Rd)])) ⟨hlt, ⟨by omega, by rw [List.length_append, q2]; rfl, hg7⟩, hM'⟩ (by simp only; omega) (by repeat (first | exact EnvSub.nil | refine EnvSub.cons rfl (by first | rfl | (congr 1; done) | (exact congrArg (Value.int _) (by omega)) | (simp; done)) ?_)) (by repeat (first | exact MSub.nil | refine MSub.keep (by first | rfl | assumption) ?_ | refine MSub.drop ?_ | exact MSub.refl _))

/-! ## Few -/
theorem fewW_100 {ws : List Wi} (h : ¬ ws.length ≤ 100) : fewW ws = false := by unfold fewW; rw [decide_eq_false h]; rfl
theorem fewW_200 {ws : List Wi} {x : Wi} (hx : x ∈ ws) (h : ¬ x.rs.length ≤ 200) : fewW ws = false := by
  unfold fewW
  rw [show ws.all (fun x => decide (x.rs.length ≤ 200)) = false from List.all_eq_false.2 ⟨x, hx, by rw [decide_eq_false h]; decide⟩]
  simp
theorem fewW_in {ws : List Wi} (h : ws.length ≤ 100) (h2 : ws.all (fun x => decide (x.rs.length ≤ 200)) = true) : fewW ws = ((decide (ws.length ≤ 6) && ws.all fun x => decide (x.rs.length ≤ 12)) || (decide (24 < ws.length) || ws.any fun x => decide (64 < x.rs.length))) := by
  unfold fewW; rw [decide_eq_true h, h2]; rfl
set_option maxRecDepth 100000 in
set_option maxHeartbeats 40000000 in
theorem Few_calls (A : Option Addr) (cap : Nat) (ws : List Wi) (w : World) (hA : Kin.At w A 3 (ws.map wiE)) (hx : ∀ x ∈ ws, x.rs.length ≤ 9223372036854775807) :
    Calls Try.prog 12 ⟨[.slice A ws.length cap]⟩ w fun e w' => e = .returned (.bool (fewW ws)) ∧ Below w.heap.size w w' := by
  refine fun_enter Try.func12 rfl Try.ntmps12 rfl rfl (satW_nil w) ?_
  by_cases h100 : ws.length ≤ 100
  rotate_left
  · have hv := fewW_100 h100
    repeat (first | refine l_val rfl rfl (by first | exact pureEval_ok rfl ) ?_ | refine l_nil ?_ | refine c_region ?_ | refine c_seq ?_ | refine x_then ?_ | refine c_dec_t rfl (by first | omega ) ?_ | refine c_ret ?_ | refine x_then_ret ?_ )
    exact x_ret rfl rfl (by repeat (first | exact Res.nil | (apply Res.tmp; rfl) | (apply Res.cell; rfl; exact (by repeat (first | exact List.Mem.head _ | apply List.Mem.tail)); rfl; rfl))) rfl (fun W hW => ⟨by rw [hv], hW.below⟩)
  repeat (first | refine l_val rfl rfl (by first | exact pureEval_ok rfl ) ?_ | refine l_nil ?_ | refine c_region ?_ | refine c_seq ?_ | refine x_then ?_ | refine c_dec_f rfl (by first | omega | exact fun h => h rfl ) ?_ | refine c_block ?_ | refine c_skip ?_ )
  refine c_loop (ι := Nat × Bool × Bool) (fun (k, fw, mn) => k ≤ ws.length ∧ (Unit → (ws.take k).all (fun x => decide (x.rs.length ≤ 200)) = true ∧ fw = (decide (ws.length ≤ 6) && (ws.take k).all fun x => decide (x.rs.length ≤ 12)) ∧ mn = (decide (24 < ws.length) || (ws.take k).any fun x => decide (64 < x.rs.length))))
    (fun (k, fw, mn) => [(0, .slice A ws.length cap), (3, .bool fw), (4, .bool mn), (5, .int .i64 k)]) (fun _ => []) (fun (k, fw, mn) => ws.length - k) (0, decide (ws.length ≤ 6), decide (24 < ws.length)) ⟨by omega, fun _ => ⟨rfl, by simp, by simp⟩⟩ ?_ (by repeat (first | exact MSub.nil | refine MSub.keep (by first | rfl | assumption) ?_ | refine MSub.drop ?_ | exact MSub.refl _)) ?_
  · refine EnvSub.cons rfl rfl (EnvSub.cons rfl ?_ (EnvSub.cons rfl ?_ (EnvSub.cons rfl rfl EnvSub.nil)))
    · exact congrArg Value.bool (decide_eq_decide.2 (by omega))
    · exact congrArg Value.bool (decide_eq_decide.2 (by omega))
  rintro ⟨k, fw, mn⟩ ⟨hk, hM⟩
  simp only at hk hM ⊢
  by_cases hlt : k < ws.length
  rotate_left
  · have hkl : k = ws.length := by omega
    subst hkl
    obtain ⟨m1, m2, m3⟩ := hM ()
    rw [List.take_length] at m1 m2 m3
    have hv := fewW_in h100 m1
    rw [← m2, ← m3] at hv
    clear hM m1 m2 m3
    cases fw with
    | true =>
      repeat (first | refine l_val rfl rfl (by first | exact pureEval_ok rfl ) ?_ | refine l_nil ?_ | refine c_region ?_ | refine c_seq ?_ | refine x_then ?_ | refine l_skip rfl rfl ?_ | refine c_dec_f rfl (by first | omega ) ?_ | refine c_ret ?_ | refine c_exit ?_ | refine x_then_exit ?_ | refine x_block_same ?_ )
      exact x_ret rfl rfl (by repeat (first | exact Res.nil | (apply Res.tmp; rfl) | (apply Res.cell; rfl; exact (by repeat (first | exact List.Mem.head _ | apply List.Mem.tail)); rfl; rfl))) rfl (fun W hW => ⟨by rw [hv]; rfl, hW.below⟩)
    | false =>
      repeat (first | refine l_val rfl rfl (by first | exact pureEval_ok rfl ) ?_ | refine l_nil ?_ | refine c_region ?_ | refine c_seq ?_ | refine x_then ?_ | refine c_dec_f rfl (by first | omega ) ?_ | refine c_ret ?_ | refine c_exit ?_ | refine x_then_exit ?_ | refine x_block_same ?_ )
      exact x_ret rfl rfl (by repeat (first | exact Res.nil | (apply Res.tmp; rfl) | (apply Res.cell; rfl; exact (by repeat (first | exact List.Mem.head _ | apply List.Mem.tail)); rfl; rfl))) rfl (fun W hW => ⟨by rw [hv]; rfl, hW.below⟩)
  obtain ⟨x, hwx⟩ : ∃ x, ws[k]? = some x := ⟨_, List.getElem?_eq_getElem hlt⟩
  have hxl := hx x (List.mem_of_getElem? hwx)
  obtain ⟨b1, o1, rfl, e1⟩ := ext_at hA hwx
  have g1 := ext_of e1
  by_cases h200 : x.rs.length ≤ 200
  rotate_left
  · have hv := fewW_200 (List.mem_of_getElem? hwx) h200
    clear hM
    repeat (first | refine l_val rfl rfl (by first | exact pureEval_ok rfl | exact v_load_ext rfl (by assumption) rfl (by rfl) | exact v_index rfl rfl rfl rfl (by omega) (by omega) (by with_reducible first | exact idx4 _ _ _  ) ) ?_ | refine l_nil ?_ | refine c_region ?_ | refine c_seq ?_ | refine x_then ?_ | refine c_dec_t rfl (by first | omega ) ?_ | refine c_block ?_ | refine c_skip ?_ | refine c_ret ?_ | refine x_then_ret ?_ | refine x_block_ret ?_ )
    exact x_ret rfl rfl (by repeat (first | exact Res.nil | (apply Res.tmp; rfl) | (apply Res.cell; rfl; exact (by repeat (first | exact List.Mem.head _ | apply List.Mem.tail)); rfl; rfl))) rfl (fun W hW => ⟨by rw [hv], hW.below⟩)
  have hM' : ∀ fw' mn', fw' = (fw && decide (x.rs.length ≤ 12)) → mn' = (mn || decide (64 < x.rs.length)) → (Unit → (ws.take (k + 1)).all (fun x => decide (x.rs.length ≤ 200)) = true ∧ fw' = (decide (ws.length ≤ 6) && (ws.take (k + 1)).all fun x => decide (x.rs.length ≤ 12)) ∧ mn' = (decide (24 < ws.length) || (ws.take (k + 1)).any fun x => decide (64 < x.rs.length))) := fun fw' mn' e1 e2 _ => by
    obtain ⟨m1, m2, m3⟩ := hM ()
    rw [List.take_add_one, hwx]
    refine ⟨by rw [List.all_append, m1]; simp [h200], ?_, ?_⟩
    · rw [e1, m2, List.all_append]; simp [Bool.and_assoc]
    · rw [e2, m3, List.any_append]; simp [Bool.or_assoc]
  have hM' := Lib.hid hM'
  clear hM
  cases fw with
  | true =>
    cases mn with
    | true =>
      have hM' := hM'.out (decide (x.rs.length ≤ 12)) true rfl rfl
      repeat (first | refine l_val rfl rfl (by first | exact v_add rfl rfl (by omega) (by omega) | exact pureEval_ok rfl | exact v_load_ext rfl (by assumption) rfl (by rfl) | exact v_index rfl rfl rfl rfl (by omega) (by omega) (by with_reducible first | exact idx4 _ _ _  ) ) ?_ | refine l_nil ?_ | refine c_region ?_ | refine c_seq ?_ | refine x_then ?_ | refine l_skip rfl rfl ?_ | refine c_dec_t rfl (by first | omega ) ?_ | refine c_dec_f rfl (by first | omega | exact fun h => h rfl ) ?_ | refine c_block ?_ | refine c_skip ?_ | refine x_block ?_ )
      exact x_back (k + 1, decide (x.rs.length ≤ 12), true) ⟨hlt, hM'⟩ (by simp only; omega) (.cons rfl rfl (.cons rfl (congrArg Value.bool (decide_eq_decide.2 (by omega))) (.cons rfl rfl (.cons rfl rfl .nil)))) (by repeat (first | exact MSub.nil | refine MSub.keep (by first | rfl | assumption) ?_ | refine MSub.drop ?_ | exact MSub.refl _))
    | false =>
      have hM' := hM'.out (decide (x.rs.length ≤ 12)) (decide (64 < x.rs.length)) rfl rfl
      repeat (first | refine l_val rfl rfl (by first | exact v_add rfl rfl (by omega) (by omega) | exact pureEval_ok rfl | exact v_load_ext rfl (by assumption) rfl (by rfl) | exact v_index rfl rfl rfl rfl (by omega) (by omega) (by with_reducible first | exact idx4 _ _ _  ) ) ?_ | refine l_nil ?_ | refine c_region ?_ | refine c_seq ?_ | refine x_then ?_ | refine c_dec_t rfl (by first | omega ) ?_ | refine c_dec_f rfl (by first | omega | exact fun h => h rfl ) ?_ | refine c_block ?_ | refine c_skip ?_ | refine x_block ?_ )
      exact x_back (k + 1, decide (x.rs.length ≤ 12), decide (64 < x.rs.length)) ⟨hlt, hM'⟩ (by simp only; omega) (.cons rfl rfl (.cons rfl (congrArg Value.bool (decide_eq_decide.2 (by omega))) (.cons rfl (congrArg Value.bool (decide_eq_decide.2 (by omega))) (.cons rfl rfl .nil)))) (by repeat (first | exact MSub.nil | refine MSub.keep (by first | rfl | assumption) ?_ | refine MSub.drop ?_ | exact MSub.refl _))
  | false =>
    cases mn with
    | true =>
      have hM' := hM'.out false true rfl rfl
      repeat (first | refine l_val rfl rfl (by first | exact v_add rfl rfl (by omega) (by omega) | exact pureEval_ok rfl | exact v_load_ext rfl (by assumption) rfl (by rfl) | exact v_index rfl rfl rfl rfl (by omega) (by omega) (by with_reducible first | exact idx4 _ _ _  ) ) ?_ | refine l_nil ?_ | refine c_region ?_ | refine c_seq ?_ | refine x_then ?_ | refine l_skip rfl rfl ?_ | refine c_dec_t rfl (by first | omega ) ?_ | refine c_dec_f rfl (by first | omega | exact fun h => h rfl ) ?_ | refine c_block ?_ | refine c_skip ?_ | refine x_block ?_ )
      exact x_back (k + 1, false, true) ⟨hlt, hM'⟩ (by simp only; omega) (by repeat (first | exact EnvSub.nil | refine EnvSub.cons rfl (by first | rfl | (congr 1; done) | (exact congrArg (Value.int _) (by omega)) | (simp; done)) ?_)) (by repeat (first | exact MSub.nil | refine MSub.keep (by first | rfl | assumption) ?_ | refine MSub.drop ?_ | exact MSub.refl _))
    | false =>
      have hM' := hM'.out false (decide (64 < x.rs.length)) rfl rfl
      repeat (first | refine l_val rfl rfl (by first | exact v_add rfl rfl (by omega) (by omega) | exact pureEval_ok rfl | exact v_load_ext rfl (by assumption) rfl (by rfl) | exact v_index rfl rfl rfl rfl (by omega) (by omega) (by with_reducible first | exact idx4 _ _ _  ) ) ?_ | refine l_nil ?_ | refine c_region ?_ | refine c_seq ?_ | refine x_then ?_ | refine l_skip rfl rfl ?_ | refine c_dec_t rfl (by first | omega ) ?_ | refine c_dec_f rfl (by first | omega | exact fun h => h rfl ) ?_ | refine c_block ?_ | refine c_skip ?_ | refine x_block ?_ )
      exact x_back (k + 1, false, decide (64 < x.rs.length)) ⟨hlt, hM'⟩ (by simp only; omega) (.cons rfl rfl (.cons rfl rfl (.cons rfl (congrArg Value.bool (decide_eq_decide.2 (by omega))) (.cons rfl rfl .nil)))) (by repeat (first | exact MSub.nil | refine MSub.keep (by first | rfl | assumption) ?_ | refine MSub.drop ?_ | exact MSub.refl _))
end R41
end Go.Proofs
