/- Collating: codes of signs, and back. -/
import Derived.Test.YtobiefdkpiognaaClA
set_option linter.unusedSectionVars false
set_option linter.unusedVariables false
set_option linter.unusedSimpArgs false
namespace Go.Proofs
open Go.RowKit Go.Kin Go.Kin.Cl
namespace R41
structure Sg where
  id : Int
  role : Int
  bar : Int
  mark : Int
  kind : Int
  side : Int
  dir : Int
  level : Int
  size : Int
  wth : Int
  fn : Int
  fd : Int
  tn : Int
  td : Int
deriving DecidableEq
@[reducible] def sgE (s : Sg) : List Value := [.int .i64 s.id, .int .i64 s.role, .int .i64 s.bar, .int .i64 s.mark, .int .i64 s.kind, .int .i64 s.side, .int .i64 s.dir, .int .i64 s.level, .int .i64 s.size, .int .i64 s.wth, .int .i64 s.fn, .int .i64 s.fd, .int .i64 s.tn, .int .i64 s.td]
def sg0 : Sg := ⟨0, 0, 0, 0, 0, 0, 0, 0, 0, 0, 0, 0, 0, 0⟩
def digs (s : Sg) : List Dg := [⟨s.role, 0, 63, 6⟩, ⟨s.kind, 1, 9, 4⟩, ⟨s.side, 0, 2, 2⟩, ⟨s.dir, 0, 8, 4⟩, ⟨s.level, 0, 3, 2⟩, ⟨s.size, 0, 255, 8⟩, ⟨s.wth, 0, 64, 7⟩]
def okS (s : Sg) : Bool := (digs s).all Dg.fit
def codeV (s : Sg) : Int := (((((s.role * 16 + s.kind) * 4 + s.side) * 16 + s.dir) * 4 + s.level) * 256 + s.size) * 128 + s.wth
theorem okS_iff {s : Sg} : okS s = true ↔ (0 ≤ s.role ∧ s.role ≤ 63) ∧ (1 ≤ s.kind ∧ s.kind ≤ 9) ∧ (0 ≤ s.side ∧ s.side ≤ 2) ∧ (0 ≤ s.dir ∧ s.dir ≤ 8) ∧ (0 ≤ s.level ∧ s.level ≤ 3) ∧ (0 ≤ s.size ∧ s.size ≤ 255) ∧ (0 ≤ s.wth ∧ s.wth ≤ 64) := by
  simp [okS, digs, Dg.fit]
theorem pv_digs (s : Sg) : pv (digs s) = codeV s := by
  unfold pv digs codeV
  simp only [List.foldl_cons, List.foldl_nil]
  rw [show (2 : Int) ^ 6 = 64 by decide, show (2 : Int) ^ 4 = 16 by decide, show (2 : Int) ^ 2 = 4 by decide, show (2 : Int) ^ 8 = 256 by decide, show (2 : Int) ^ 7 = 128 by decide]
  omega
theorem digs_fine (s : Sg) : ∀ d ∈ digs s, Fine d := by
  intro d hd
  simp only [digs, List.mem_cons, List.not_mem_nil, or_false] at hd
  rcases hd with rfl | rfl | rfl | rfl | rfl | rfl | rfl <;> (unfold Fine; simp only; decide)
/-- what Code answers -/
def codA (s : Sg) : Int × Int := if okS s = true then (codeV s, 0) else (0, 410)
def v2 (p : Int × Int) : Value := .tuple ⟨[.int .i64 p.1, .int .i64 p.2]⟩
theorem codA_t {s : Sg} (h : okS s = true) : codA s = (codeV s, 0) := if_pos h
theorem codA_f {s : Sg} (h : ¬ okS s = true) : codA s = (0, 410) := if_neg h
theorem dg_len (l : List Dg) : ∀ r ∈ l.map dgE, r.length = 4 := fun r hr => by obtain ⟨x, _, rfl⟩ := List.mem_map.1 hr; rfl
set_option maxRecDepth 100000 in
set_option maxHeartbeats 4000000 in
theorem Code_calls (s : Sg) (w : World) : Calls Try.prog 18 ⟨[.agg ⟨sgE s⟩]⟩ w fun e w' => e = .returned (v2 (codA s)) ∧ Below w.heap.size w w' := by
  refine fun_enter Try.func18 rfl Try.ntmps18 rfl rfl (satW_nil w) ?_
  repeat (first | refine l_val rfl rfl (by first | exact pureEval_ok rfl | exact v_load rfl (by repeat (first | exact List.Mem.head _ | apply List.Mem.tail)) rfl (by rfl) | exact v_build rfl rfl (by rfl) ) ?_ | refine l_nil ?_ | refine c_region ?_ | refine c_seq ?_ | refine x_then ?_ | refine r_box rfl rfl rfl rfl (fun _ => ?_) | refine r_buildSlice rfl rfl rfl rfl rfl rfl (by rfl) (fun _ => ?_) )
  rename_i b1 b2
  refine r_call rfl rfl rfl (fun W hW => pack_calls (some ⟨b2, 0, none⟩) 7 (digs s) W (by simp [digs]) (digs_fine s) (hW.rows (b := b2) (by repeat (first | exact List.Mem.head _ | apply List.Mem.tail)) (rest := []) rfl (dg_len _))) ?_
  rw [pv_digs]
  by_cases h : okS s = true
  · rw [show (digs s).all Dg.fit = true from h, if_pos rfl]
    repeat (first | refine l_val rfl rfl (by first | exact pureEval_ok rfl ) ?_ | refine l_nil ?_ | refine c_region ?_ | refine c_seq ?_ | refine x_then ?_ | refine c_false rfl ?_ | refine c_skip ?_ | refine c_ret ?_ )
    exact x_ret rfl rfl (by repeat (first | exact Res.nil | (apply Res.tmp; rfl) | (apply Res.cell; rfl; exact (by repeat (first | exact List.Mem.head _ | apply List.Mem.tail)); rfl; rfl))) rfl (fun W hW => ⟨by rw [codA_t h]; rfl, hW.below⟩)
  · rw [show (digs s).all Dg.fit = false by simpa [okS] using h]
    repeat (first | refine l_val rfl rfl (by first | exact pureEval_ok rfl ) ?_ | refine l_nil ?_ | refine c_region ?_ | refine c_seq ?_ | refine x_then ?_ | refine c_true rfl ?_ | refine c_ret ?_ | refine x_then_ret ?_ )
    exact x_ret rfl rfl (by repeat (first | exact Res.nil | (apply Res.tmp; rfl) | (apply Res.cell; rfl; exact (by repeat (first | exact List.Mem.head _ | apply List.Mem.tail)); rfl; rfl))) rfl (fun W hW => ⟨by rw [codA_f h]; rfl, hW.below⟩)

set_option maxRecDepth 100000 in
set_option maxHeartbeats 4000000 in
theorem rCode_calls (s : Sg) (w : World) : Calls Try.prog 19 ⟨[.agg ⟨sgE s⟩]⟩ w fun e w' => e = .returned (v2 (codA s)) ∧ Below w.heap.size w w' := by
  refine fun_enter Try.func19 rfl Try.ntmps19 rfl rfl (satW_nil w) ?_
  have hno : (okS s = true → False) → codA s = (0, 410) := fun h => codA_f h
  have hk := okS_iff (s := s)
  by_cases h1 : 0 ≤ s.role ∧ s.role ≤ 63
  rotate_left
  · have hv := hno fun h => h1 (hk.1 h).1
    clear hno hk
    repeat (first | refine l_val rfl rfl (by first | exact pureEval_ok rfl | exact v_load rfl (by repeat (first | exact List.Mem.head _ | apply List.Mem.tail)) rfl (by rfl) ) ?_ | refine l_nil ?_ | refine c_region ?_ | refine c_seq ?_ | refine x_then ?_ | refine l_skip rfl rfl ?_ | refine r_box rfl rfl rfl rfl (fun _ => ?_) | refine c_true rfl ?_ | refine c_ret ?_ | refine x_then_ret ?_ | refine l_not_t rfl rfl rfl rfl (by first | omega ) ?_ | (refine r_call rfl rfl rfl (fun W hW => within_calls _ _ _ W) ?_) )
    exact x_ret rfl rfl (by repeat (first | exact Res.nil | (apply Res.tmp; rfl) | (apply Res.cell; rfl; exact (by repeat (first | exact List.Mem.head _ | apply List.Mem.tail)); rfl; rfl))) rfl (fun W hW => ⟨by rw [hv]; rfl, hW.below⟩)
  by_cases h2 : 1 ≤ s.kind ∧ s.kind ≤ 9
  rotate_left
  · have hv := hno fun h => h2 (hk.1 h).2.1
    clear hno hk
    repeat (first | refine l_val rfl rfl (by first | exact pureEval_ok rfl | exact v_load rfl (by repeat (first | exact List.Mem.head _ | apply List.Mem.tail)) rfl (by rfl) ) ?_ | refine l_nil ?_ | refine c_region ?_ | refine c_seq ?_ | refine x_then ?_ | refine l_skip rfl rfl ?_ | refine r_box rfl rfl rfl rfl (fun _ => ?_) | refine c_true rfl ?_ | refine c_ret ?_ | refine x_then_ret ?_ | refine l_not_t rfl rfl rfl rfl (by first | omega ) ?_ | refine l_not_f rfl rfl rfl rfl (by first | omega ) ?_ | (refine r_call rfl rfl rfl (fun W hW => within_calls _ _ _ W) ?_) )
    exact x_ret rfl rfl (by repeat (first | exact Res.nil | (apply Res.tmp; rfl) | (apply Res.cell; rfl; exact (by repeat (first | exact List.Mem.head _ | apply List.Mem.tail)); rfl; rfl))) rfl (fun W hW => ⟨by rw [hv]; rfl, hW.below⟩)
  by_cases h3 : 0 ≤ s.side ∧ s.side ≤ 2
  rotate_left
  · have hv := hno fun h => h3 (hk.1 h).2.2.1
    clear hno hk
    repeat (first | refine l_val rfl rfl (by first | exact pureEval_ok rfl | exact v_load rfl (by repeat (first | exact List.Mem.head _ | apply List.Mem.tail)) rfl (by rfl) ) ?_ | refine l_nil ?_ | refine c_region ?_ | refine c_seq ?_ | refine x_then ?_ | refine l_skip rfl rfl ?_ | refine r_box rfl rfl rfl rfl (fun _ => ?_) | refine c_true rfl ?_ | refine c_ret ?_ | refine x_then_ret ?_ | refine l_not_t rfl rfl rfl rfl (by first | omega ) ?_ | refine l_not_f rfl rfl rfl rfl (by first | omega ) ?_ | (refine r_call rfl rfl rfl (fun W hW => within_calls _ _ _ W) ?_) )
    exact x_ret rfl rfl (by repeat (first | exact Res.nil | (apply Res.tmp; rfl) | (apply Res.cell; rfl; exact (by repeat (first | exact List.Mem.head _ | apply List.Mem.tail)); rfl; rfl))) rfl (fun W hW => ⟨by rw [hv]; rfl, hW.below⟩)
  by_cases h4 : 0 ≤ s.dir ∧ s.dir ≤ 8
  rotate_left
  · have hv := hno fun h => h4 (hk.1 h).2.2.2.1
    clear hno hk
    repeat (first | refine l_val rfl rfl (by first | exact pureEval_ok rfl | exact v_load rfl (by repeat (first | exact List.Mem.head _ | apply List.Mem.tail)) rfl (by rfl) ) ?_ | refine l_nil ?_ | refine c_region ?_ | refine c_seq ?_ | refine x_then ?_ | refine l_skip rfl rfl ?_ | refine r_box rfl rfl rfl rfl (fun _ => ?_) | refine c_true rfl ?_ | refine c_ret ?_ | refine x_then_ret ?_ | refine l_not_t rfl rfl rfl rfl (by first | omega ) ?_ | refine l_not_f rfl rfl rfl rfl (by first | omega ) ?_ | (refine r_call rfl rfl rfl (fun W hW => within_calls _ _ _ W) ?_) )
    exact x_ret rfl rfl (by repeat (first | exact Res.nil | (apply Res.tmp; rfl) | (apply Res.cell; rfl; exact (by repeat (first | exact List.Mem.head _ | apply List.Mem.tail)); rfl; rfl))) rfl (fun W hW => ⟨by rw [hv]; rfl, hW.below⟩)
  by_cases h5 : 0 ≤ s.level ∧ s.level ≤ 3
  rotate_left
  · have hv := hno fun h => h5 (hk.1 h).2.2.2.2.1
    clear hno hk
    repeat (first | refine l_val rfl rfl (by first | exact pureEval_ok rfl | exact v_load rfl (by repeat (first | exact List.Mem.head _ | apply List.Mem.tail)) rfl (by rfl) ) ?_ | refine l_nil ?_ | refine c_region ?_ | refine c_seq ?_ | refine x_then ?_ | refine l_skip rfl rfl ?_ | refine r_box rfl rfl rfl rfl (fun _ => ?_) | refine c_true rfl ?_ | refine c_ret ?_ | refine x_then_ret ?_ | refine l_not_t rfl rfl rfl rfl (by first | omega ) ?_ | refine l_not_f rfl rfl rfl rfl (by first | omega ) ?_ | (refine r_call rfl rfl rfl (fun W hW => within_calls _ _ _ W) ?_) )
    exact x_ret rfl rfl (by repeat (first | exact Res.nil | (apply Res.tmp; rfl) | (apply Res.cell; rfl; exact (by repeat (first | exact List.Mem.head _ | apply List.Mem.tail)); rfl; rfl))) rfl (fun W hW => ⟨by rw [hv]; rfl, hW.below⟩)
  by_cases h6 : 0 ≤ s.size ∧ s.size ≤ 255
  rotate_left
  · have hv := hno fun h => h6 (hk.1 h).2.2.2.2.2.1
    clear hno hk
    repeat (first | refine l_val rfl rfl (by first | exact pureEval_ok rfl | exact v_load rfl (by repeat (first | exact List.Mem.head _ | apply List.Mem.tail)) rfl (by rfl) ) ?_ | refine l_nil ?_ | refine c_region ?_ | refine c_seq ?_ | refine x_then ?_ | refine l_skip rfl rfl ?_ | refine r_box rfl rfl rfl rfl (fun _ => ?_) | refine c_true rfl ?_ | refine c_ret ?_ | refine x_then_ret ?_ | refine l_not_t rfl rfl rfl rfl (by first | omega ) ?_ | refine l_not_f rfl rfl rfl rfl (by first | omega ) ?_ | (refine r_call rfl rfl rfl (fun W hW => within_calls _ _ _ W) ?_) )
    exact x_ret rfl rfl (by repeat (first | exact Res.nil | (apply Res.tmp; rfl) | (apply Res.cell; rfl; exact (by repeat (first | exact List.Mem.head _ | apply List.Mem.tail)); rfl; rfl))) rfl (fun W hW => ⟨by rw [hv]; rfl, hW.below⟩)
  by_cases h7 : 0 ≤ s.wth ∧ s.wth ≤ 64
  rotate_left
  · have hv := hno fun h => h7 (hk.1 h).2.2.2.2.2.2
    clear hno hk
    repeat (first | refine l_val rfl rfl (by first | exact pureEval_ok rfl | exact v_load rfl (by repeat (first | exact List.Mem.head _ | apply List.Mem.tail)) rfl (by rfl) ) ?_ | refine l_nil ?_ | refine c_region ?_ | refine c_seq ?_ | refine x_then ?_ | refine r_box rfl rfl rfl rfl (fun _ => ?_) | refine c_ret ?_ | refine x_then_ret ?_ | refine c_not_t rfl (by first | omega ) ?_ | refine l_not_f rfl rfl rfl rfl (by first | omega ) ?_ | (refine r_call rfl rfl rfl (fun W hW => within_calls _ _ _ W) ?_) )
    exact x_ret rfl rfl (by repeat (first | exact Res.nil | (apply Res.tmp; rfl) | (apply Res.cell; rfl; exact (by repeat (first | exact List.Mem.head _ | apply List.Mem.tail)); rfl; rfl))) rfl (fun W hW => ⟨by rw [hv]; rfl, hW.below⟩)
  have hv := codA_t (hk.2 ⟨h1, h2, h3, h4, h5, h6, h7⟩)
  clear hno hk
  repeat (first | refine l_val rfl rfl (by first | exact v_add rfl rfl (by omega) (by omega) | exact v_mul rfl rfl (by omega) (by omega) | exact pureEval_ok rfl | exact v_load rfl (by repeat (first | exact List.Mem.head _ | apply List.Mem.tail)) rfl (by rfl) ) ?_ | refine l_nil ?_ | refine c_region ?_ | refine c_seq ?_ | refine x_then ?_ | refine r_box rfl rfl rfl rfl (fun _ => ?_) | refine c_skip ?_ | refine c_ret ?_ | refine l_not_f rfl rfl rfl rfl (by first | omega ) ?_ | refine c_not_f rfl (by first | omega ) ?_ | (refine r_call rfl rfl rfl (fun W hW => within_calls _ _ _ W) ?_) )
  exact x_ret rfl rfl (by repeat (first | exact Res.nil | (apply Res.tmp; rfl) | (apply Res.cell; rfl; exact (by repeat (first | exact List.Mem.head _ | apply List.Mem.tail)); rfl; rfl))) rfl (fun W hW => ⟨by rw [hv]; rfl, hW.below⟩)
end R41
end Go.Proofs
