/- Collating: the chapter's examples. -/
import Derived.Test.YtobiefdkpiognaaClT
import Derived.Test.YtobiefdkpiognaaClO
set_option linter.unusedSectionVars false
set_option linter.unusedVariables false
set_option linter.unusedSimpArgs false
namespace Go.Proofs
open Go.RowKit Go.Kin Go.Kin.Cl
namespace R41
/-! ## Values -/
theorem t1 : codA (sgn 1) = (8388736, 0) := by decide
theorem t2 : sgnA 8388736 = (⟨0, 0, 0, 0, 1, 0, 0, 0, 1, 0, 0, 0, 0, 0⟩, 0) := by decide
theorem a1 : ac [8388736, 8388864] [8388864] = 2 := by simp only [ac_cons, ac_nil_left, ac_nil_right]; decide
theorem b1 : pairL [8388736, 8388864] [8388864] = [(1, 0), (2, 1)] := by unfold pairL prf; simp only [List.drop_zero, best_cons, best_nil_left, best_nil_right, ac_cons, ac_nil_left, ac_nil_right]; decide
theorem a2 : ac [8388736, 8388864] [8388992, 8388736, 8388864] = 2 := by simp only [ac_cons, ac_nil_left, ac_nil_right]; decide
theorem b2 : pairL [8388736, 8388864] [8388992, 8388736, 8388864] = [(0, 1), (1, 2), (2, 3)] := by unfold pairL prf; simp only [List.drop_zero, best_cons, best_nil_left, best_nil_right, ac_cons, ac_nil_left, ac_nil_right]; decide
theorem a3 : ac [] [] = 0 := by rw [ac_nil_left]; rfl
theorem b3 : pairL [] [] = [] := by unfold pairL prf; simp only [List.drop_zero, best_nil_left]; rfl
theorem a4 : ac [8388736] [8589934592] = 0 := by simp only [ac_cons, ac_nil_left, ac_nil_right]; decide
theorem b4 : pairL [8388736] [8589934592] = [(1, 1)] := by unfold pairL prf; simp only [List.drop_zero, best_cons, best_nil_left, best_nil_right, ac_cons, ac_nil_left, ac_nil_right]; decide
theorem a5 : ac [8388736] [8388864] = 3 := by simp only [ac_cons, ac_nil_left, ac_nil_right]; decide
theorem b5 : pairL [8388736] [8388864] = [(1, 1)] := by unfold pairL prf; simp only [List.drop_zero, best_cons, best_nil_left, best_nil_right, ac_cons, ac_nil_left, ac_nil_right]; decide
def ls0 : List (List Int) := [[8388736, 8388864], [8388736, 8388992, 8388864]]
theorem bst : best [8388736, 8388864] [8388736, 8388992, 8388864] = [.both, .right, .both] := by simp only [best_cons, best_nil_left, best_nil_right, ac_cons, ac_nil_left, ac_nil_right]; decide
theorem pr1 : prI ls0 1 = [(1, 1), (0, 2), (2, 3)] := by rw [prI_s (by decide)]; show prs (best [8388736, 8388864] [8388736, 8388992, 8388864]) 0 0 = _; rw [bst]; rfl
theorem wd0 (k : Nat) : wd ls0 k = (sel [8388736, 8388992, 8388864] k [(1, 1)]).length := by
  show max (max 0 _) _ = _
  rw [sgI_0]
  unfold sgI ysI
  rw [pr1]
  show max (max 0 0) _ = _
  rw [Nat.max_self, Nat.zero_max]; rfl
theorem wd0f : wd ls0 = fun (k : Nat) => (sel [8388736, 8388992, 8388864] (k : Int) [(1, 1)]).length := funext wd0
theorem row0 : rowI ls0 0 = [8388736, 0, 8388864] := by
  have h2 : sgI ls0 0 = fun _ => [] := funext fun k => sgI_0 k
  have h3 : tpI ls0 0 = fun k => (txt ls0).getD k 0 := funext fun k => tpI_0 k
  unfold rowI
  rw [wd0f, h2, h3]
  decide
theorem row1 : rowI ls0 1 = [8388736, 8388992, 8388864] := by
  have h2 : sgI ls0 1 = fun (k : Nat) => sel (li ls0 1) (k : Int) (alY [(1, 1), (0, 2), (2, 3)] 0) := by funext k; unfold sgI ysI; rw [pr1]
  have h3 : tpI ls0 1 = fun (k : Nat) => ov (li ls0 1) [(1, 1), (0, 2), (2, 3)] (fun _ => 0) k := by funext k; unfold tpI; rw [pr1]; rfl
  unfold rowI
  rw [wd0f, h2, h3]
  decide
theorem loc0 : lociN ls0 = 3 := by
  unfold lociN
  rw [wd0f]
  decide
theorem p65 : prR [] ((List.range 65).map fun _ => 0) = 2 := by decide
theorem c1e : codA sg0 = (0, 410) := by decide
theorem c2e : sgnA 0 = (sg0, 410) := by decide
theorem c3e : sgnA 8589934592 = (sg0, 410) := by decide
/-! ## Pair, with values that are known -/
theorem pair_blk {a b : List Int} {c : Int} {L : List (Int × Int)} {w w' : World} {e : Ending} (h : PairQ a b w e w') (hR : prR a b = 0) (hL : pairL a b = L) (hc : ac a b = c) (hne : L ≠ []) :
    ∃ q : Nat × Nat × List Value, e = .returned (.tuple ⟨[.int .i64 c, .slice (some ⟨q.1, 0, none⟩) L.length q.2.1, .int .i64 0]⟩) ∧ Below w.heap.size w w' ∧ w.heap.size ≤ q.1 ∧ w'.heap[q.1]? = some (.cells ⟨flatP L ++ q.2.2⟩ 62 (0, 0)) := by
  obtain ⟨h1, ⟨h2, h3⟩ | ⟨h2, h3, h4⟩ | ⟨h2, h3, bp, cap, rest, h4, h5, h6⟩⟩ := h
  · exact absurd hR h2
  · exact absurd (hL.symm.trans h3) hne
  · subst hL hc
    exact ⟨(bp, cap, rest), h4, h1, h5, h6⟩
theorem pair_nil {a b : List Int} {c : Int} {w w' : World} {e : Ending} (h : PairQ a b w e w') (hR : prR a b = 0) (hL : pairL a b = []) (hc : ac a b = c) : e = .returned (.tuple ⟨[.int .i64 c, .slice none 0 0, .int .i64 0]⟩) ∧ Below w.heap.size w w' := by
  obtain ⟨h1, ⟨h2, h3⟩ | ⟨h2, h3, h4⟩ | ⟨h2, h3, h4⟩⟩ := h
  · exact absurd hR h2
  · subst hc; exact ⟨h4, h1⟩
  · exact absurd hL h3
theorem pair_err {a b : List Int} {z : Int} {w w' : World} {e : Ending} (h : PairQ a b w e w') (hR : prR a b = z) (hz : z ≠ 0) : e = .returned (.tuple ⟨[.int .i64 0, .slice none 0 0, .int .i64 z]⟩) ∧ Below w.heap.size w w' := by
  subst hR
  obtain ⟨h1, ⟨h2, h3⟩ | ⟨h2, h3, h4⟩ | ⟨h2, h3, h4⟩⟩ := h
  · exact ⟨h3, h1⟩
  · exact absurd h2 hz
  · exact absurd h2 hz
theorem wit_blk {no : Int} {sizes : List Int} {w w' : World} {e : Ending} (h : WitQ no sizes w e w') (hne : sizes ≠ []) :
    ∃ q : Nat × Nat × List Value, e = .returned (.agg ⟨[.int .i64 no, .int .i64 1913, .slice (some ⟨q.1, 0, none⟩) sizes.length q.2.1]⟩) ∧ Below w.heap.size w w' ∧ w.heap.size ≤ q.1 ∧ w'.heap[q.1]? = some (.cells ⟨flatD (sizes.map rdN) ++ q.2.2⟩ 72 (0, 0)) := by
  obtain ⟨h1, ⟨h2, -⟩ | ⟨-, b, c, r, h3, h4, h5⟩⟩ := h
  · exact absurd h2 hne
  · exact ⟨(b, c, r), h3, h1, h4, h5⟩
theorem rv_len (l : List RV) : ∀ r ∈ l.map rvE, r.length = 1 := fun r hr => by obtain ⟨x, _, rfl⟩ := List.mem_map.1 hr; rfl
theorem cos_blk {x : Wi} {L : List Int} {w w' : World} {e : Ending} (h : CosQ x w e w') (hc : chkW [x] = 0) (hL : cds x = L) (hne : L ≠ []) : ∃ q : Nat × Nat × List Value, e = .returned (.tuple ⟨[.slice (some ⟨q.1, 0, none⟩) L.length q.2.1, .int .i64 0]⟩) ∧ Below w.heap.size w w' ∧ w.heap.size ≤ q.1 ∧ w'.heap[q.1]? = some (.cells ⟨flatI L ++ q.2.2⟩ 3 (0, 0)) := by
  have hl := (cosL_ok hc).trans hL
  obtain ⟨h1, ⟨h2, -⟩ | ⟨h2, b, cap, rest, h3, h5, h6⟩⟩ := h
  · exact absurd (hl.symm.trans h2) hne
  · rw [hl, hc] at h3
    rw [hl] at h6
    exact ⟨(b, cap, rest), h3, h1, h5, h6⟩
theorem wi_len (ws : List Wi) : ∀ r ∈ ws.map wiE, r.length = 3 := fun r hr => by obtain ⟨x, _, rfl⟩ := List.mem_map.1 hr; rfl
theorem rvE_ne (l : List RV) : ∀ r ∈ l.map rvE, r ≠ [] := fun r hr => by obtain ⟨x, _, rfl⟩ := List.mem_map.1 hr; simp
theorem tab_ls (y3 c3 y4 c4 : Nat) : lsW [⟨1, 1913, some ⟨y3, 0, none⟩, c3, [1, 2].map rdN⟩, ⟨2, 1913, some ⟨y4, 0, none⟩, c4, [1, 3, 2].map rdN⟩] = ls0 := by
  have h1 : ([1, 2].map rdN).map cod = [8388736, 8388864] := by decide
  have h2 : ([1, 3, 2].map rdN).map cod = [8388736, 8388992, 8388864] := by decide
  show [([1, 2].map rdN).map cod, ([1, 3, 2].map rdN).map cod] = _
  rw [h1, h2]; rfl
theorem tab_chk (y3 c3 y4 c4 : Nat) : chkW [⟨1, 1913, some ⟨y3, 0, none⟩, c3, [1, 2].map rdN⟩, ⟨2, 1913, some ⟨y4, 0, none⟩, c4, [1, 3, 2].map rdN⟩] = 0 := by
  have h1 : ([1, 2].map rdN).all readB = true := by decide
  have h2 : ([1, 3, 2].map rdN).all readB = true := by decide
  rw [chkW_in (by simp) (by intro x hx; simp only [List.mem_cons, List.not_mem_nil, or_false] at hx; rcases hx with rfl | rfl <;> simp)]
  refine if_pos ?_
  unfold allW
  rw [Bool.and_eq_true]
  refine ⟨(witB_yes ⟨by simp, by simp, by simp, by simp⟩).trans h1, ?_⟩
  unfold allW
  rw [Bool.and_eq_true]
  exact ⟨(witB_yes ⟨by simp, by simp, by simp, by simp⟩).trans h2, rfl⟩
theorem cds_one (A : Option Addr) (cap : Nat) : cds ⟨1, 1913, A, cap, [2, 0].map rdN⟩ = [8388864, 8589934592] := by
  show ([2, 0].map rdN).map cod = _
  decide
theorem chk_one (A : Option Addr) (cap : Nat) : chkW [⟨1, 1913, A, cap, [2, 0].map rdN⟩] = 0 := by
  have h1 : ([2, 0].map rdN).all readB = true := by decide
  rw [chkW_in (by simp) (by intro x hx; rw [List.mem_singleton.1 hx]; simp)]
  refine if_pos ?_
  unfold allW
  rw [Bool.and_eq_true]
  exact ⟨(witB_yes ⟨by simp, by simp, by simp, by simp⟩).trans h1, rfl⟩
theorem wf_rdN (n : Int) : (rdN n).s.wf := by unfold rdN; split <;> exact ⟨⟨by simp [sgn, sg0], by simp [sgn, sg0]⟩, ⟨by simp [sgn, sg0], by simp [sgn, sg0]⟩, ⟨by simp [sgn, sg0], by simp [sgn, sg0]⟩, ⟨by simp [sgn, sg0], by simp [sgn, sg0]⟩⟩
theorem wf_sizes (l : List Int) : ∀ r ∈ l.map rdN, r.s.wf := fun r hr => by obtain ⟨n, _, rfl⟩ := List.mem_map.1 hr; exact wf_rdN n
set_option maxRecDepth 100000 in
set_option maxHeartbeats 80000000 in
theorem sane_calls (w : World) : Calls Try.prog 11 ⟨[]⟩ w fun e w' => e = .returned (.bool true) ∧ Below w.heap.size w w' := by
  refine fun_enter Try.func11 rfl Try.ntmps11 rfl rfl (satW_nil w) ?_
  repeat (first | refine l_val rfl rfl (by first | exact pureEval_ok rfl ) ?_ | refine l_nil ?_ | refine c_region ?_ | refine c_seq ?_ | refine x_then ?_ )
  refine r_call rfl rfl rfl (fun W hW => sign_calls _ W) ?_
  skip
  refine r_call rfl rfl rfl (fun W hW => Code_calls (sgn 1) W) ?_
  rw [t1]
  unfold v2
  repeat (first | refine l_val rfl rfl (by first | exact pureEval_ok rfl ) ?_ | refine l_nil ?_ | refine c_region ?_ | refine c_seq ?_ | refine x_then ?_ )
  refine r_call rfl rfl rfl (fun W hW => Sign_calls 8388736 W (by decide)) ?_
  rw [t2]
  unfold vS
  repeat (first | refine l_val rfl rfl (by first | exact pureEval_ok rfl ) ?_ | refine l_nil ?_ | refine c_region ?_ | refine c_seq ?_ | refine x_then ?_ | refine r_alloc rfl rfl rfl (by first | exact aggL ) (fun _ => ?_) | refine r_store rfl rfl rfl rfl rfl rfl rfl (by repeat (first | exact Upd.head | apply Upd.tail)) (by rfl) ?_ | refine r_buildSlice rfl rfl rfl rfl rfl rfl (by rfl) (fun _ => ?_) )
  rename_i x6 x50
  refine r_call1 (ι := Nat × Nat × List Value) (v := fun q => .agg ⟨[.int .i64 1, .int .i64 1913, .slice (some ⟨q.1, 0, none⟩) 2 q.2.1]⟩) (bk := fun q => q.1) (o := fun q => .cells ⟨flatD ([2, 0].map rdN) ++ q.2.2⟩ 72 (0, 0)) rfl rfl rfl (fun W hW => (witness_calls 1 [2, 0] (some ⟨x50, 0, none⟩) 2 W (by decide) (hW.rows (by repeat (first | exact List.Mem.head _ | apply List.Mem.tail)) (rest := []) rfl (in_len _))).mono fun e W' h => wit_blk h (by decide)) ?_
  rintro ⟨y1, c1, r1⟩
  skip
  refine r_call1 (ι := Nat × Nat × List Value) (v := fun q => .tuple ⟨[.slice (some ⟨q.1, 0, none⟩) 2 q.2.1, .int .i64 0]⟩) (bk := fun q => q.1) (o := fun q => .cells ⟨flatI [8388864, 8589934592] ++ q.2.2⟩ 3 (0, 0)) rfl rfl rfl (fun W hW => (Codes_calls ⟨1, 1913, some ⟨y1, 0, none⟩, c1, [2, 0].map rdN⟩ W ⟨hW.rows (by repeat (first | exact List.Mem.head _ | apply List.Mem.tail)) (rest := r1) rfl (rdE_len _), wf_sizes _, by simp⟩).mono fun e W' h => cos_blk (L := [8388864, 8589934592]) h (chk_one _ _) (cds_one _ _) (by simp)) ?_
  rintro ⟨y2, c2, r2⟩
  repeat (first | refine l_val rfl rfl (by first | exact pureEval_ok rfl ) ?_ | refine l_nil ?_ | refine c_region ?_ | refine c_seq ?_ | refine x_then ?_ | refine r_buildSlice rfl rfl rfl rfl rfl rfl (by rfl) (fun _ => ?_) )
  rename_i z1 z2
  refine r_call1 (ι := Nat × Nat × List Value) (v := fun q => .tuple ⟨[.int .i64 2, .slice (some ⟨q.1, 0, none⟩) 2 q.2.1, .int .i64 0]⟩) (bk := fun q => q.1) (o := fun q => .cells ⟨flatP [(1, 0), (2, 1)] ++ q.2.2⟩ 62 (0, 0)) rfl rfl rfl (fun W hW => (Pair_calls [8388736, 8388864] [8388864] (some ⟨z1, 0, none⟩) (some ⟨z2, 0, none⟩) 2 1 W (by decide) (by decide) (by decide) (by decide) (hW.rows (by repeat (first | exact List.Mem.head _ | apply List.Mem.tail)) (rest := []) rfl (in_len _)) (hW.rows (by repeat (first | exact List.Mem.head _ | apply List.Mem.tail)) (rest := []) rfl (in_len _))).mono fun e W' h => pair_blk h (by decide) b1 a1 (by decide)) ?_
  rintro ⟨p1, d1, q1⟩
  repeat (first | refine l_val rfl rfl (by first | exact pureEval_ok rfl ) ?_ | refine l_nil ?_ | refine c_region ?_ | refine c_seq ?_ | refine x_then ?_ | refine r_buildSlice rfl rfl rfl rfl rfl rfl (by rfl) (fun _ => ?_) )
  rename_i z3 z4
  refine r_call1 (ι := Nat × Nat × List Value) (v := fun q => .tuple ⟨[.int .i64 2, .slice (some ⟨q.1, 0, none⟩) 3 q.2.1, .int .i64 0]⟩) (bk := fun q => q.1) (o := fun q => .cells ⟨flatP [(0, 1), (1, 2), (2, 3)] ++ q.2.2⟩ 62 (0, 0)) rfl rfl rfl (fun W hW => (Pair_calls [8388736, 8388864] [8388992, 8388736, 8388864] (some ⟨z3, 0, none⟩) (some ⟨z4, 0, none⟩) 2 3 W (by decide) (by decide) (by decide) (by decide) (hW.rows (by repeat (first | exact List.Mem.head _ | apply List.Mem.tail)) (rest := []) rfl (in_len _)) (hW.rows (by repeat (first | exact List.Mem.head _ | apply List.Mem.tail)) (rest := []) rfl (in_len _))).mono fun e W' h => pair_blk h (by decide) b2 a2 (by decide)) ?_
  rintro ⟨p2, d2, q2⟩
  repeat (first | refine l_val rfl rfl (by first | exact pureEval_ok rfl ) ?_ | refine l_nil ?_ | refine c_region ?_ | refine c_seq ?_ | refine x_then ?_ )
  refine r_call rfl rfl rfl (fun W hW => (Pair_calls [] [] none none 0 0 W (by decide) (by decide) (by decide) (by decide) (at_nil _ _) (at_nil _ _)).mono fun e W' h => pair_nil h (by decide) b3 a3) ?_
  repeat (first | refine l_val rfl rfl (by first | exact pureEval_ok rfl ) ?_ | refine l_nil ?_ | refine c_region ?_ | refine c_seq ?_ | refine x_then ?_ | refine r_buildSlice rfl rfl rfl rfl rfl rfl (by rfl) (fun _ => ?_) )
  rename_i z5 z6
  refine r_call1 (ι := Nat × Nat × List Value) (v := fun q => .tuple ⟨[.int .i64 0, .slice (some ⟨q.1, 0, none⟩) 1 q.2.1, .int .i64 0]⟩) (bk := fun q => q.1) (o := fun q => .cells ⟨flatP [(1, 1)] ++ q.2.2⟩ 62 (0, 0)) rfl rfl rfl (fun W hW => (Pair_calls [8388736] [8589934592] (some ⟨z5, 0, none⟩) (some ⟨z6, 0, none⟩) 1 1 W (by decide) (by decide) (by decide) (by decide) (hW.rows (by repeat (first | exact List.Mem.head _ | apply List.Mem.tail)) (rest := []) rfl (in_len _)) (hW.rows (by repeat (first | exact List.Mem.head _ | apply List.Mem.tail)) (rest := []) rfl (in_len _))).mono fun e W' h => pair_blk h (by decide) b4 a4 (by decide)) ?_
  rintro ⟨p4, d4, q4⟩
  repeat (first | refine l_val rfl rfl (by first | exact pureEval_ok rfl ) ?_ | refine l_nil ?_ | refine c_region ?_ | refine c_seq ?_ | refine x_then ?_ | refine r_buildSlice rfl rfl rfl rfl rfl rfl (by rfl) (fun _ => ?_) )
  rename_i z7 z8
  refine r_call1 (ι := Nat × Nat × List Value) (v := fun q => .tuple ⟨[.int .i64 3, .slice (some ⟨q.1, 0, none⟩) 1 q.2.1, .int .i64 0]⟩) (bk := fun q => q.1) (o := fun q => .cells ⟨flatP [(1, 1)] ++ q.2.2⟩ 62 (0, 0)) rfl rfl rfl (fun W hW => (Pair_calls [8388736] [8388864] (some ⟨z7, 0, none⟩) (some ⟨z8, 0, none⟩) 1 1 W (by decide) (by decide) (by decide) (by decide) (hW.rows (by repeat (first | exact List.Mem.head _ | apply List.Mem.tail)) (rest := []) rfl (in_len _)) (hW.rows (by repeat (first | exact List.Mem.head _ | apply List.Mem.tail)) (rest := []) rfl (in_len _))).mono fun e W' h => pair_blk h (by decide) b5 a5 (by decide)) ?_
  rintro ⟨p5, d5, q5⟩
  repeat (first | refine l_val rfl rfl (by first | exact pureEval_ok rfl ) ?_ | refine l_nil ?_ | refine c_region ?_ | refine c_seq ?_ | refine x_then ?_ | refine r_buildSlice rfl rfl rfl rfl rfl rfl (by rfl) (fun _ => ?_) )
  rename_i z9
  refine r_call1 (ι := Nat × Nat × List Value) (v := fun q => .agg ⟨[.int .i64 1, .int .i64 1913, .slice (some ⟨q.1, 0, none⟩) 2 q.2.1]⟩) (bk := fun q => q.1) (o := fun q => .cells ⟨flatD ([1, 2].map rdN) ++ q.2.2⟩ 72 (0, 0)) rfl rfl rfl (fun W hW => (witness_calls 1 [1, 2] (some ⟨z9, 0, none⟩) 2 W (by decide) (hW.rows (by repeat (first | exact List.Mem.head _ | apply List.Mem.tail)) (rest := []) rfl (in_len _))).mono fun e W' h => wit_blk h (by decide)) ?_
  rintro ⟨y3, c3, r3⟩
  repeat (first | refine r_buildSlice rfl rfl rfl rfl rfl rfl (by rfl) (fun _ => ?_) )
  rename_i z10
  refine r_call1 (ι := Nat × Nat × List Value) (v := fun q => .agg ⟨[.int .i64 2, .int .i64 1913, .slice (some ⟨q.1, 0, none⟩) 3 q.2.1]⟩) (bk := fun q => q.1) (o := fun q => .cells ⟨flatD ([1, 3, 2].map rdN) ++ q.2.2⟩ 72 (0, 0)) rfl rfl rfl (fun W hW => (witness_calls 2 [1, 3, 2] (some ⟨z10, 0, none⟩) 3 W (by decide) (hW.rows (by repeat (first | exact List.Mem.head _ | apply List.Mem.tail)) (rest := []) rfl (in_len _))).mono fun e W' h => wit_blk h (by decide)) ?_
  rintro ⟨y4, c4, r4⟩
  repeat (first | refine r_buildSlice rfl rfl rfl rfl rfl rfl (by rfl) (fun _ => ?_) )
  rename_i z11
  refine l_callF (ι := Option Addr × Nat × List RV) (v := fun q => .tuple ⟨[.slice q.1 q.2.2.length q.2.1, .int .i64 0]⟩) (fun q W W' => q.2.2.map RV.l = [[8388736, 0, 8388864], [8388736, 8388992, 8388864]] ∧ RowsF W W' q.1 q.2.2) rfl rfl rfl (MSub.refl _) (fun W hW => ?_) ?_
  · refine (Table_calls (some ⟨z11, 0, none⟩) 2 [⟨1, 1913, some ⟨y3, 0, none⟩, c3, [1, 2].map rdN⟩, ⟨2, 1913, some ⟨y4, 0, none⟩, c4, [1, 3, 2].map rdN⟩] W (hW.rows (by repeat (first | exact List.Mem.head _ | apply List.Mem.tail)) (rest := []) rfl (wi_len _)) ?_ (by simp)).mono ?_
    · intro x hx
      simp only [List.mem_cons, List.not_mem_nil, or_false] at hx
      rcases hx with rfl | rfl
      · exact ⟨hW.rows (by repeat (first | exact List.Mem.head _ | apply List.Mem.tail)) (rest := r3) rfl (rdE_len _), wf_sizes _, by simp⟩
      · exact ⟨hW.rows (by repeat (first | exact List.Mem.head _ | apply List.Mem.tail)) (rest := r4) rfl (rdE_len _), wf_sizes _, by simp⟩
    · rintro e W' ⟨TA, tc, rows, h1, h2, h3, h4⟩
      have hck : chkW [⟨1, 1913, some ⟨y3, 0, none⟩, c3, [1, 2].map rdN⟩, ⟨2, 1913, some ⟨y4, 0, none⟩, c4, [1, 3, 2].map rdN⟩] = 0 := tab_chk y3 c3 y4 c4
      have hls : lsW [⟨1, 1913, some ⟨y3, 0, none⟩, c3, [1, 2].map rdN⟩, ⟨2, 1913, some ⟨y4, 0, none⟩, c4, [1, 3, 2].map rdN⟩] = ls0 := tab_ls y3 c3 y4 c4
      obtain ⟨k1, k2⟩ := tab_ok hck (by simp) (by rw [hls, loc0]; decide)
      rw [hls] at k2
      rw [k1] at h1
      exact ⟨(TA, tc, rows), h1, h2, by rw [h3, k2]; show [rowI ls0 0, rowI ls0 1] = _; rw [row0, row1], h4⟩
  rintro ⟨TA, tc, rows⟩ W W1 hW hB1 hW1 ⟨hr1, hr2⟩
  refine l_gen fun D1 hD1 => ?_
  simp only at hr1 hr2 ⊢
  have hS1 : Same (base w) w W1 := hW1.same
  have hD2 : ∀ k, base w k → D1 k := by rw [hD1]; exact hW1.allBut (MSub.refl _)
  have hrl : rows.length = 2 := by have := congrArg List.length hr1; simpa using this
  have top : Ar W1 D1 TA 1 (rows.map rvE) := by rw [hD1]; exact hr2.top.ar (rvE_ne _) (SatW.lts hW)
  have rws : ∀ v ∈ rows, Ar W1 D1 v.A 1 (v.l.map inE) := fun v hv => by rw [hD1]; exact (hr2.row v hv).ar (inE_ne _) (SatW.lts hW)
  clear hr2 hW hB1 hW1 hD1
  repeat (first | refine l_val rfl rfl (by first | exact pureEval_ok rfl | exact v_load rfl (by repeat (first | exact List.Mem.head _ | apply List.Mem.tail)) rfl (by rfl) | exact v_build rfl rfl (by rfl) | exact v_neS rfl rfl rfl rfl ) ?_ | refine l_nil ?_ | refine c_region ?_ | refine c_seq ?_ | refine x_then ?_ | refine r_buildSlice rfl rfl rfl rfl rfl rfl (by rfl) (fun _ => ?_) | refine c_false rfl ?_ | refine c_skip ?_ )
  rename_i z12
  refine r_call rfl rfl rfl (fun W hW => SameInts_calls (some ⟨y2, 0, none⟩) (some ⟨z12, 0, none⟩) c2 2 [8388864, 8589934592] [8388864, 8589934592] W (by decide) (by decide) (hW.rows (by repeat (first | exact List.Mem.head _ | apply List.Mem.tail)) (rest := r2) rfl (in_len _)) (hW.rows (by repeat (first | exact List.Mem.head _ | apply List.Mem.tail)) (rest := []) rfl (in_len _))) ?_
  rw [show decide (([8388864, 8589934592] : List Int) = [8388864, 8589934592]) = true from by decide]
  repeat (first | refine l_val rfl rfl (by first | exact pureEval_ok rfl | exact v_buildA rfl rfl rfl (by rfl) ) ?_ | refine l_nil ?_ | refine c_region ?_ | refine c_seq ?_ | refine x_then ?_ | refine r_buildSlice rfl rfl rfl rfl rfl rfl (by rfl) (fun _ => ?_) | refine c_false rfl ?_ | refine c_skip ?_ )
  rename_i z13
  refine r_call rfl rfl rfl (fun W hW => SamePairs_calls (some ⟨p1, 0, none⟩) (some ⟨z13, 0, none⟩) d1 2 [(1, 0), (2, 1)] [(1, 0), (2, 1)] W (by decide) (by decide) (hW.rows (by repeat (first | exact List.Mem.head _ | apply List.Mem.tail)) (rest := q1) rfl (pQ_len _)) (hW.rows (by repeat (first | exact List.Mem.head _ | apply List.Mem.tail)) (rest := []) rfl (pQ_len _))) ?_
  rw [show decide (([(1, 0), (2, 1)] : List (Int × Int)) = [(1, 0), (2, 1)]) = true from by decide]
  repeat (first | refine l_val rfl rfl (by first | exact pureEval_ok rfl | exact v_buildA rfl rfl rfl (by rfl) ) ?_ | refine r_buildSlice rfl rfl rfl rfl rfl rfl (by rfl) (fun _ => ?_) )
  rename_i z14
  refine r_call rfl rfl rfl (fun W hW => SamePairs_calls (some ⟨p2, 0, none⟩) (some ⟨z14, 0, none⟩) d2 3 [(0, 1), (1, 2), (2, 3)] [(0, 1), (1, 2), (2, 3)] W (by decide) (by decide) (hW.rows (by repeat (first | exact List.Mem.head _ | apply List.Mem.tail)) (rest := q2) rfl (pQ_len _)) (hW.rows (by repeat (first | exact List.Mem.head _ | apply List.Mem.tail)) (rest := []) rfl (pQ_len _))) ?_
  rw [show decide (([(0, 1), (1, 2), (2, 3)] : List (Int × Int)) = [(0, 1), (1, 2), (2, 3)]) = true from by decide]
  repeat (first | refine l_val rfl rfl (by first | exact pureEval_ok rfl | exact v_buildA rfl rfl rfl (by rfl) ) ?_ | refine r_buildSlice rfl rfl rfl rfl rfl rfl (by rfl) (fun _ => ?_) | refine l_dec_f rfl rfl rfl rfl rfl (by first | omega | exact fun h => h rfl ) ?_ )
  rename_i z15
  refine r_call rfl rfl rfl (fun W hW => SamePairs_calls (some ⟨p4, 0, none⟩) (some ⟨z15, 0, none⟩) d4 1 [(1, 1)] [(1, 1)] W (by decide) (by decide) (hW.rows (by repeat (first | exact List.Mem.head _ | apply List.Mem.tail)) (rest := q4) rfl (pQ_len _)) (hW.rows (by repeat (first | exact List.Mem.head _ | apply List.Mem.tail)) (rest := []) rfl (pQ_len _))) ?_
  rw [show decide (([(1, 1)] : List (Int × Int)) = [(1, 1)]) = true from by decide]
  repeat (first | refine l_val rfl rfl (by first | exact pureEval_ok rfl | exact v_buildA rfl rfl rfl (by rfl) ) ?_ | refine r_buildSlice rfl rfl rfl rfl rfl rfl (by rfl) (fun _ => ?_) )
  rename_i z16
  refine r_call rfl rfl rfl (fun W hW => SamePairs_calls (some ⟨p5, 0, none⟩) (some ⟨z16, 0, none⟩) d5 1 [(1, 1)] [(1, 1)] W (by decide) (by decide) (hW.rows (by repeat (first | exact List.Mem.head _ | apply List.Mem.tail)) (rest := q5) rfl (pQ_len _)) (hW.rows (by repeat (first | exact List.Mem.head _ | apply List.Mem.tail)) (rest := []) rfl (pQ_len _))) ?_
  rw [show decide (([(1, 1)] : List (Int × Int)) = [(1, 1)]) = true from by decide]
  repeat (first | refine l_val rfl rfl (by first | exact pureEval_ok rfl | exact v_build rfl rfl (by rfl) ) ?_ | refine l_nil ?_ | refine c_region ?_ | refine c_seq ?_ | refine x_then ?_ | refine c_false rfl ?_ | refine c_skip ?_ )
  refine r_call rfl rfl rfl (fun W hW => Code_calls sg0 W) ?_
  rw [c1e]
  unfold v2
  repeat (first | refine l_val rfl rfl (by first | exact pureEval_ok rfl ) ?_ | refine l_nil ?_ | refine c_region ?_ | refine c_seq ?_ | refine x_then ?_ )
  refine r_call rfl rfl rfl (fun W hW => Sign_calls 0 W (by decide)) ?_
  rw [c2e]
  unfold vS
  repeat (first | refine l_val rfl rfl (by first | exact pureEval_ok rfl ) ?_ | refine l_nil ?_ | refine c_region ?_ | refine c_seq ?_ | refine x_then ?_ | refine r_alloc rfl rfl rfl (by first | exact aggL ) (fun _ => ?_) | refine r_store rfl rfl rfl rfl rfl rfl rfl (by repeat (first | exact Upd.head | apply Upd.tail)) (by rfl) ?_ )
  refine r_call rfl rfl rfl (fun W hW => Sign_calls 8589934592 W (by decide)) ?_
  rw [c3e]
  unfold vS
  repeat (first | refine l_val rfl rfl (by first | exact pureEval_ok rfl ) ?_ | refine l_nil ?_ | refine c_region ?_ | refine c_seq ?_ | refine x_then ?_ | refine r_alloc rfl rfl rfl (by first | exact aggL ) (fun _ => ?_) | refine r_store rfl rfl rfl rfl rfl rfl rfl (by repeat (first | exact Upd.head | apply Upd.tail)) (by rfl) ?_ | refine r_buildSlice rfl rfl rfl rfl rfl rfl (by rfl) (fun _ => ?_) )
  rename_i z17
  refine r_call rfl rfl rfl (fun W hW => (Pair_calls [] [0] none (some ⟨z17, 0, none⟩) 0 1 W (by decide) (by decide) (by decide) (by decide) (at_nil _ _) (hW.rows (by repeat (first | exact List.Mem.head _ | apply List.Mem.tail)) (rest := []) rfl (in_len _))).mono fun e W' h => pair_err h (z := 410) (by decide) (by decide)) ?_
  repeat (first | refine l_val rfl rfl (by first | exact pureEval_ok rfl ) ?_ | refine l_nil ?_ | refine c_region ?_ | refine c_seq ?_ | refine x_then ?_ )
  refine r_make (n := 65) rfl rfl rfl rfl rfl rfl (by decide) (by decide) (by decide) rfl rfl flat_int (fun z18 => ?_)
  skip
  refine r_call rfl rfl rfl (fun W hW => (Pair_calls [] ((List.range 65).map fun _ => 0) none (some ⟨z18, 0, none⟩) 0 65 W (by decide) (by decide) (by decide) (by decide) (at_nil _ _) (hW.rows (by repeat (first | exact List.Mem.head _ | apply List.Mem.tail)) (rest := []) ((ivec_flatI 65 fun _ => 0).trans (List.append_nil _).symm) (in_len _))).mono fun e W' h => pair_err h (z := 2) p65 (by decide)) ?_
  repeat (first | refine l_val rfl rfl (by first | exact pureEval_ok rfl ) ?_ | refine l_nil ?_ | refine c_region ?_ | refine c_seq ?_ | refine x_then ?_ | refine r_buildSlice rfl rfl rfl rfl rfl rfl (by rfl) (fun _ => ?_) | refine c_false rfl ?_ | refine c_skip ?_ )
  rename_i z19 z20 z21
  have hv1 : ∀ v ∈ rows, v.l.length ≤ 100000 := fun v hv => by
    have h1 : v.l ∈ rows.map RV.l := List.mem_map.2 ⟨v, hv, rfl⟩
    rw [hr1] at h1
    simp only [List.mem_cons, List.not_mem_nil, or_false] at h1
    rcases h1 with h1 | h1 <;> rw [h1] <;> decide
  have hr1 := Lib.hid hr1
  refine r_call rfl rfl rfl (fun W hW => SameRows_calls TA (some ⟨z21, 0, none⟩) tc 2 rows [⟨some ⟨z19, 0, none⟩, 3, [8388736, 0, 8388864]⟩, ⟨some ⟨z20, 0, none⟩, 3, [8388736, 8388992, 8388864]⟩] W (by omega) (by simp) hv1 (by simp) ⟨top.at hW, fun v hv => (rws v hv).at hW⟩ ⟨hW.rows (by repeat (first | exact List.Mem.head _ | apply List.Mem.tail)) (rest := []) rfl (rv_len _), fun v hv => ?_⟩) ?_
  · simp only [List.mem_cons, List.not_mem_nil, or_false] at hv
    rcases hv with rfl | rfl
    · exact hW.rows (by repeat (first | exact List.Mem.head _ | apply List.Mem.tail)) (rest := []) rfl (in_len _)
    · exact hW.rows (by repeat (first | exact List.Mem.head _ | apply List.Mem.tail)) (rest := []) rfl (in_len _)
  have hdec : decide (rows.map RV.l = ([⟨some ⟨z19, 0, none⟩, 3, [8388736, 0, 8388864]⟩, ⟨some ⟨z20, 0, none⟩, 3, [8388736, 8388992, 8388864]⟩] : List RV).map RV.l) = true := decide_eq_true (hr1.out.trans rfl)
  rw [hdec]
  repeat (first | refine l_val rfl rfl (by first | exact pureEval_ok rfl ) ?_ )
  refine r_call rfl rfl rfl (fun W hW => Check_calls none 0 [] W (at_nil _ _) (fun x hx => by cases hx) (by decide)) ?_
  rw [show chkW [] = 0 from by decide]
  repeat (first | refine l_val rfl rfl (by first | exact pureEval_ok rfl ) ?_ | refine l_dec_t rfl rfl rfl rfl rfl (by first | omega ) ?_ )
  refine r_call (v := .agg ⟨[.int .i64 0, .int .i64 1913, .slice none 0 0]⟩) rfl rfl rfl (fun W hW => (witness_calls 0 [] none 0 W (by decide) (at_nil _ _)).mono fun e W' h => ?_) ?_
  · obtain ⟨h1, ⟨-, h3⟩ | ⟨h2, -⟩⟩ := h
    · exact ⟨h3, h1⟩
    · exact absurd rfl h2
  repeat (first | refine r_buildSlice rfl rfl rfl rfl rfl rfl (by rfl) (fun _ => ?_) )
  rename_i z22
  refine r_call rfl rfl rfl (fun W hW => Check_calls (some ⟨z22, 0, none⟩) 1 [⟨0, 1913, none, 0, []⟩] W (hW.rows (by repeat (first | exact List.Mem.head _ | apply List.Mem.tail)) (rest := []) rfl (wi_len _)) (fun x hx => by rw [List.mem_singleton.1 hx]; exact ⟨at_nil _ _, fun r hr => (by cases hr), by decide⟩) (by decide)) ?_
  rw [show chkW [⟨0, 1913, none, 0, []⟩] = 410 from by decide]
  repeat (first | refine l_val rfl rfl (by first | exact pureEval_ok rfl ) ?_ | refine l_nil ?_ | refine x_then ?_ | refine c_ret ?_ )
  exact x_ret rfl rfl (by repeat (first | exact Res.nil | (apply Res.tmp; rfl) | (apply Res.cell; rfl; exact (by repeat (first | exact List.Mem.head _ | apply List.Mem.tail)); rfl; rfl))) rfl (fun W hW => ⟨rfl, (hS1.trans (hW.same.mono hD2)).base_later⟩)
end R41
end Go.Proofs
