/- Games on networks: the points that are free. -/
import Derived.Test.YtcodoembnjemkaaSgA
set_option linter.unusedSectionVars false
set_option linter.unusedVariables false
set_option linter.unusedSimpArgs false
namespace Go.Proofs
open Go.RowKit Go.Kin Go.Kin.St Go.Kin.Ct Go.Kin.Sg
namespace R24
/-- a game lies in the world -/
structure GIn (b : GB) (a : Nat) (w : World) : Prop where
  own : ∀ (j : Nat) (v : Value), b.cells[j]? = some v → w.cell? ⟨a, j, none⟩ = some v
  l : At w b.A 4 (b.L.map lkE)
  c : At w b.B 4 (b.C.map lkE)
theorem GIn.ext {b : GB} {a : Nat} {w : World} (h : GIn b a w) : Ext w (base w) a 0 b.cells := ext_of fun j v hj => by rw [Nat.zero_add]; exact h.own j v hj
def flt (p : Nat → Bool) (k : Nat) : List Nat := (List.range k).filter p
theorem flt_succ (p : Nat → Bool) (k : Nat) : flt p (k + 1) = if p k = true then flt p k ++ [k] else flt p k := by
  unfold flt
  rw [List.range_succ, List.filter_append]
  cases h : p k <;> simp [h]
theorem flt_le (p : Nat → Bool) (k : Nat) : (flt p k).length ≤ k := by
  have := List.length_filter_le p (List.range k)
  rw [List.length_range] at this
  exact this
theorem nE_rows (l : List Nat) : (l.map nE).flatten.length = l.length * 1 := by
  induction l with
  | nil => rfl
  | cons x l ih => rw [List.map_cons, List.flatten_cons, List.length_append, ih, List.length_cons]; show 1 + _ = _; omega
/-- a list of points in new memory, nil if it is empty -/
def LsQ (l : List Nat) (w : World) (e : Ending) (w' : World) : Prop :=
  ∃ (b cap : Nat) (rest : List Value), e = .returned (gSl l b cap) ∧ gOK nE 1 l cap rest ∧ Below w.heap.size w w' ∧ (l ≠ [] → w.heap.size ≤ b ∧ w'.heap[b]? = some (.cells ⟨(l.map nE).flatten ++ rest⟩ 3 (0, 0)))
theorem lsQ_ret {l : List Nat} {w W : World} {mem : List (Nat × Obj)} {b cap : Nat} {rest : List Value} (hW : SatW w (base w) noJ mem W) (hg : gOK nE 1 l cap rest) (h : ∀ p ∈ gM nE 3 l b rest, p ∈ mem) : LsQ l w (.returned (gSl l b cap)) W := by
  refine ⟨b, cap, rest, rfl, hg, hW.below, fun hne => ?_⟩
  cases l with
  | nil => exact absurd rfl hne
  | cons x l =>
    have hm := h _ List.mem_cons_self
    exact ⟨Nat.le_of_not_lt (hW.own _ hm).1, (hW.own _ hm).2⟩
theorem cells_0 {b : GB} : b.cells[0]? = some (.int .i64 b.n) := rfl
theorem cells_iv {b : GB} {q : Nat} (h : q < 6) : b.cells[4 + q]? = some (.int .i64 (iv b.C q)) := by
  unfold GB.cells GB.u
  show ([_, _, _] ++ _ :: (ivec 6 (iv b.C) ++ _))[4 + q]? = _
  rw [List.getElem?_append_right (by simp; omega)]
  rw [show 4 + q - [Value.int .i64 b.n, .slice b.A b.L.length b.ca, .slice b.B b.C.length b.cb].length = q + 1 by simp; omega, List.getElem?_cons_succ, List.getElem?_append_left (by rw [ivec_length]; exact h)]
  exact ivec_get h
structure LS where
  i : Nat
  b : Nat
  c : Nat
  r : List Value
def freeB (C : List Lk) (f : Nat → Int) (q : Nat) : Bool := decide (iv C q = 0) && decide (f q = 0)
set_option maxRecDepth 100000 in
set_option maxHeartbeats 40000000 in
theorem free_calls (b : GB) (a : Nat) (k : Int) (f : Nat → Int) (w : World) (hn : b.n ≤ 6) (hg : GIn b a w) :
    Calls Try.prog 32 ⟨[.pointer (some ⟨a, 0, none⟩), .agg ⟨plC k f⟩]⟩ w (LsQ (flt (freeB b.C f) b.n) w) := by
  have hown := hg.ext
  refine fun_enter Try.func32 rfl Try.ntmps32 rfl rfl (satW_nil w) ?_
  have h00 : Ext w (base w) a 0 [.int .i64 b.n] := hown.at cells_0
  repeat (first | refine l_val rfl rfl (by first | exact pureEval_ok rfl | exact v_load_ext0 rfl (by assumption) rfl (by rfl)  | fail) ?_ | refine l_nil ?_ | refine c_region ?_ | refine c_seq ?_ | refine x_then ?_ | refine r_box rfl rfl rfl rfl (fun _ => ?_) | refine c_block ?_  | fail)
  rename_i b1
  refine c_loop (ι := LS) (fun s => s.i ≤ b.n ∧ gOK nE 1 (flt (freeB b.C f) s.i) s.c s.r) (fun s => [(0, .pointer (some ⟨a, 0, none⟩)), (3, .pointer (some ⟨b1, 0, none⟩)), (4, gSl (flt (freeB b.C f) s.i) s.b s.c), (10, .int .i64 b.n), (11, .int .i64 s.i)])
    (fun s => (b1, .cells ⟨plC k f⟩ 67 (0, 0)) :: gM nE 3 (flt (freeB b.C f) s.i) s.b s.r) (fun s => b.n - s.i) ⟨0, 0, 0, []⟩ ⟨Nat.zero_le _, fun h => absurd rfl h⟩ (by repeat (first | exact EnvSub.nil | refine EnvSub.cons rfl (by first | rfl | (congr 1; done) | (exact congrArg (Value.int _) (by omega)) | (simp; done)) ?_)) (by repeat (first | exact MSub.nil | refine MSub.keep (by first | rfl | assumption) ?_ | refine MSub.drop ?_ | exact MSub.refl _)) ?_
  rintro ⟨q, bb, cc, r⟩ ⟨hq, hgr⟩
  simp only at hq hgr ⊢
  by_cases hlt : q < b.n
  · have hiv : Ext w (base w) a (0 + 4 + q) [.int .i64 (iv b.C q)] := by
      have := hown.at (cells_iv (b := b) (show q < 6 by omega))
      rwa [show 0 + (4 + q) = 0 + 4 + q by omega] at this
    have hpl := plC_get (k := k) (f := f) (show q < 6 by omega)
    have hsu := flt_succ (freeB b.C f) q
    have hle := flt_le (freeB b.C f) q
    obtain ⟨A', k', hA'⟩ := gSl_len (l := flt (freeB b.C f) q) (b := bb) (cap := cc)
    have hgr' := fun (_ : Unit) => hgr
    clear hgr
    by_cases h1 : iv b.C q = 0
    rotate_left
    · have hf : freeB b.C f q = false := by unfold freeB; rw [decide_eq_false h1]; rfl
      rw [hf, if_neg (by decide)] at hsu
      repeat (first | refine l_val rfl rfl (by first | exact v_add rfl rfl (by omega) (by omega) | exact pureEval_ok rfl | exact v_load_ext0 rfl (by assumption) rfl (by rfl) | exact v_indexA rfl rfl rfl rfl (by omega) (by omega) (by with_reducible first | exact idx2 _ _   | fail)  | fail) ?_ | refine l_nil ?_ | refine c_region ?_ | refine c_seq ?_ | refine x_then ?_ | refine l_skip rfl rfl ?_ | refine c_false rfl ?_ | refine c_dec_t rfl (by first | omega  | fail) ?_ | refine c_block ?_ | refine c_skip ?_ | refine x_block ?_ | refine l_dec_f rfl rfl rfl rfl rfl (by first | omega  | fail) ?_  | fail)
      exact x_back ⟨q + 1, bb, cc, r⟩ ⟨hlt, by rw [hsu]; exact hgr' ()⟩ (by simp only; omega) (by simp only [hsu]; exact (by repeat (first | exact EnvSub.nil | refine EnvSub.cons rfl (by first | rfl | (congr 1; done) | (exact congrArg (Value.int _) (by omega)) | (simp; done)) ?_))) (by simp only [hsu]; exact (by repeat (first | exact MSub.nil | refine MSub.keep (by first | rfl | assumption) ?_ | refine MSub.drop ?_ | exact MSub.refl _)))
    by_cases h2 : f q = 0
    rotate_left
    · have hf : freeB b.C f q = false := by unfold freeB; rw [decide_eq_false h2, Bool.and_false]
      rw [hf, if_neg (by decide)] at hsu
      repeat (first | refine l_val rfl rfl (by first | exact v_add rfl rfl (by omega) (by omega) | exact pureEval_ok rfl | exact v_load_ext0 rfl (by assumption) rfl (by rfl) | exact v_indexA rfl rfl rfl rfl (by omega) (by omega) (by with_reducible first | exact idx2 _ _   | fail) | exact v_load_at rfl (by repeat (first | exact List.Mem.head _ | apply List.Mem.tail)) rfl rfl (by first | assumption  | fail)  | fail) ?_ | refine l_nil ?_ | refine c_region ?_ | refine c_seq ?_ | refine x_then ?_ | refine c_dec_t rfl (by first | omega  | fail) ?_ | refine c_dec_f rfl (by first | omega  | fail) ?_ | refine c_block ?_ | refine c_skip ?_ | refine x_block ?_ | refine l_dec_t rfl rfl rfl rfl rfl (by first | omega  | fail) ?_  | fail)
      exact x_back ⟨q + 1, bb, cc, r⟩ ⟨hlt, by rw [hsu]; exact hgr' ()⟩ (by simp only; omega) (by simp only [hsu]; exact (by repeat (first | exact EnvSub.nil | refine EnvSub.cons rfl (by first | rfl | (congr 1; done) | (exact congrArg (Value.int _) (by omega)) | (simp; done)) ?_))) (by simp only [hsu]; exact (by repeat (first | exact MSub.nil | refine MSub.keep (by first | rfl | assumption) ?_ | refine MSub.drop ?_ | exact MSub.refl _)))
    have hf : freeB b.C f q = true := by unfold freeB; rw [decide_eq_true h1, decide_eq_true h2]; rfl
    rw [hf, if_pos rfl] at hsu
    rw [hA']
    repeat (first | refine l_val rfl rfl (by first | exact pureEval_ok rfl | exact v_load_ext0 rfl (by assumption) rfl (by rfl) | exact v_indexA rfl rfl rfl rfl (by omega) (by omega) (by with_reducible first | exact idx2 _ _   | fail) | exact v_load_at rfl (by repeat (first | exact List.Mem.head _ | apply List.Mem.tail)) rfl rfl (by first | assumption  | fail)  | fail) ?_ | refine l_nil ?_ | refine c_region ?_ | refine c_seq ?_ | refine x_then ?_ | refine r_buildSlice rfl rfl rfl rfl rfl rfl (by rfl) (fun _ => ?_) | refine c_dec_t rfl (by first | omega  | fail) ?_ | refine c_block ?_ | refine c_skip ?_ | refine l_dec_t rfl rfl rfl rfl rfl (by first | omega  | fail) ?_  | fail)
    refine r_appendZ (f := nE) (e := 3) (sz := 1) (xs := flt (freeB b.C f) q) (ys := [q]) (m := 1) rfl rfl (congrArg some hA'.symm) rfl rfl rfl rfl (.inr ⟨_, 0, rfl, news_own (by repeat (first | exact List.Mem.head _ | apply List.Mem.tail))⟩) (List.perm_append_comm (l₁ := [_, _])) (hgr' ()) nE_rows rfl rfl (by omega) (by unfold maxLen; omega) (fun b' c' r' hg' => ?_)
    rw [← hsu] at hg' ⊢
    refine l_perm List.perm_append_comm ?_
    obtain ⟨A2', k2', hA2'⟩ := gSl_len (l := flt (freeB b.C f) (q + 1)) (b := b') (cap := c')
    rw [hA2']
    simp only [List.cons_append, List.nil_append]
    repeat (first | refine l_val rfl rfl (by first | exact v_add rfl rfl (by omega) (by omega) | exact pureEval_ok rfl  | fail) ?_ | refine l_nil ?_ | refine c_region ?_ | refine x_then ?_ | refine x_block ?_  | fail)
    rw [← hA2']
    exact x_back ⟨q + 1, b', c', r'⟩ ⟨hlt, hg'⟩ (by simp only; omega) (by repeat (first | exact EnvSub.nil | refine EnvSub.cons rfl (by first | rfl | (congr 1; done) | (exact congrArg (Value.int _) (by omega)) | (simp; done)) ?_)) (by repeat (first | exact MSub.nil | refine MSub.keep (by first | rfl | assumption) ?_ | refine MSub.drop ?_ | exact MSub.refl _))
  · have hqe : q = b.n := by omega
    subst hqe
    obtain ⟨A', k', hA'⟩ := gSl_len (l := flt (freeB b.C f) b.n) (b := bb) (cap := cc)
    rw [hA']
    repeat (first | refine l_val rfl rfl (by first | exact pureEval_ok rfl  | fail) ?_ | refine l_nil ?_ | refine c_region ?_ | refine c_seq ?_ | refine x_then ?_ | refine c_dec_f rfl (by first | omega  | fail) ?_ | refine c_ret ?_ | refine c_exit ?_ | refine x_then_exit ?_ | refine x_block_same ?_  | fail)
    exact x_ret rfl rfl (by repeat (first | exact Res.nil | (apply Res.tmp; rfl) | (apply Res.cell; rfl; exact (by repeat (first | exact List.Mem.head _ | apply List.Mem.tail)); rfl; rfl))) rfl (fun W hW => by rw [← hA']; exact lsQ_ret hW hgr (fun p hp => List.mem_cons_of_mem _ hp))
end R24
end Go.Proofs
