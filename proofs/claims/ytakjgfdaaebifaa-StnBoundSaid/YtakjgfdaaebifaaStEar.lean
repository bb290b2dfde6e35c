/- The specification's Earliest. -/
import Derived.Test.YtakjgfdaaebifaaStLat
set_option linter.unusedSectionVars false
set_option linter.unusedVariables false
set_option linter.unusedSimpArgs false
namespace Go.Proofs
open Go.RowKit Go.Kin Go.Kin.St
namespace R22

/-- The least schedule, if there is one. -/
noncomputable def ear (n : Int) (l : List Lk) : Option (Nat → Int) := if chk n l = 0 then found (edges l) (n.toNat + 1) (fun _ => 0) else none
theorem ear_bad {n : Int} {l : List Lk} (h : chk n l ≠ 0) : ear n l = none := if_neg h
theorem ear_least {n : Int} {l : List Lk} {L : Nat → Int} (h : ear n l = some L) : chk n l = 0 ∧ Least n.toNat (edges l) (fun _ => 0) L := by
  unfold ear at h
  split at h
  · rename_i hc
    exact ⟨hc, found_least (chk_fine hc).2.2.2.inE h⟩
  · cases h
theorem ear_none {n : Int} {l : List Lk} (h : ear n l = none) (hc : chk n l = 0) (s : Nat → Int) : ¬ Sol (edges l) s := by
  unfold ear at h
  rw [if_pos hc] at h
  exact found_no (chk_fine hc).2.2.2.inE h s
theorem ear_of {n : Int} {l : List Lk} {t : Nat → Int} (hc : chk n l = 0) (h : Least n.toNat (edges l) (fun _ => 0) t) : ∃ L, ear n l = some L ∧ ∀ x, x < n.toNat → t x = L x := by
  cases he : ear n l with
  | none => exact absurd h.sol (ear_none he hc t)
  | some L => exact ⟨L, rfl, h.uniq (ear_least he).2⟩
theorem ear_no {n : Int} {l : List Lk} (h : ∀ s, ¬ Sol (edges l) s) : ear n l = none := by
  cases he : ear n l with
  | none => rfl
  | some L => exact absurd (ear_least he).2.sol (h L)

theorem ivec_congr {n : Nat} {f g : Nat → Int} (h : ∀ x, x < n → f x = g x) : ivec n f = ivec n g := by
  unfold ivec vec
  apply List.map_congr_left
  intro x hx
  rw [h x (List.mem_range.1 hx)]

def noV (e : Int) : Value := .tuple ⟨[.slice none 0 0, .bool false, .int .i64 e]⟩
def yesV (n b : Nat) : Value := .tuple ⟨[.slice (some ⟨b, 0, none⟩) n n, .bool true, .int .i64 0]⟩
/-- What Earliest answers. -/
def EarQ (n : Int) (l : List Lk) (w : World) (e : Ending) (w' : World) : Prop :=
  (ear n l = none ∧ e = .returned (noV (chk n l)) ∧ Below w.heap.size w w') ∨
  (∃ L b, ear n l = some L ∧ e = .returned (yesV n.toNat b) ∧ Below w.heap.size w w' ∧ w.heap.size ≤ b ∧ w'.heap[b]? = some (.cells ⟨ivec n.toNat L⟩ 3 (0, 0)))

theorem pass_within {n : Int} {l : List Lk} {f : Nat → Int} {K : Int} (hF : Fine n l) (hl : l.length ≤ 256) (hK : Within K f) : Within (K + 562949953421312) (pass (edges' l) f) := by
  have h := lat_within hF hK l.length (Nat.le_refl _)
  rw [List.take_length, ← lat_fold, flagged_fold_fst] at h
  exact h.mono (by omega)
theorem passes_within {n : Int} {l : List Lk} (hF : Fine n l) (hl : l.length ≤ 256) (k : Nat) : Within (562949953421312 * k) (passes (edges' l) k (fun _ => 0)) := by
  induction k with
  | zero => exact Within.zero (by omega)
  | succ k ih => exact (pass_within hF hl ih).mono (by omega)

theorem rEar_calls (n : Int) (A : Option Addr) (cap : Nat) (l : List Lk) (w : World) (hl : l.length ≤ 1000) (hA : At w A 4 (l.map lkE)) :
    Calls Try.prog 19 ⟨[.agg ⟨netCells n A l.length cap⟩]⟩ w (EarQ n l w) := by
  refine fun_enter Try.func19 rfl Try.ntmps19 rfl rfl (satW_nil w) ?_
  repeat (first | refine l_val rfl rfl (by first | exact pureEval_ok rfl | exact v_load rfl (by repeat (first | exact List.Mem.head _ | apply List.Mem.tail)) rfl (by rfl) ) ?_ | refine l_nil ?_ | refine c_region ?_ | refine c_seq ?_ | refine x_then ?_ | refine r_box rfl rfl rfl rfl (fun _ => ?_) )
  refine r_call rfl rfl rfl (fun W hW => rcheck_calls n A cap l W hl (hA.sat hW)) ?_
  repeat' (first | refine l_val rfl rfl (by first | exact pureEval_ok rfl | exact v_load rfl (by repeat (first | exact List.Mem.head _ | apply List.Mem.tail)) rfl (by rfl) ) ?_ | refine l_nil ?_ | refine c_region ?_ | refine c_seq ?_ | refine x_then ?_ | refine c_skip ?_ | refine c_ret ?_ | refine x_then_ret ?_ | refine c_dec rfl (fun _ => ?_) (fun _ => ?_) )
  · rename_i b1 h1
    exact x_ret rfl rfl (by repeat (first | exact Res.nil | (apply Res.tmp; rfl) | (apply Res.cell; rfl; exact (by repeat (first | exact List.Mem.head _ | apply List.Mem.tail)); rfl; rfl))) rfl (fun W hW => .inl ⟨ear_bad h1, rfl, hW.below⟩)
  · rename_i b1 h0
    have h0 := Decidable.not_not.1 h0
    obtain ⟨c1, c2, c3, hF⟩ := chk_fine h0
    obtain ⟨N, rfl⟩ : ∃ N : Nat, n = N := ⟨n.toNat, by omega⟩
    repeat (first | refine l_val rfl rfl (by first | exact pureEval_ok rfl ) ?_ | refine l_nil ?_ | refine c_region ?_ | refine c_seq ?_ | refine x_then ?_ | refine r_make rfl rfl rfl rfl rfl rfl (by first | rfl ) (by omega) (by omega) rfl rfl (by first | exact flat_int ) (fun _ => ?_) | refine c_block ?_ )
    rename_i b
    refine c_loop (ι := Nat × Bool) (fun p => p.1 ≤ N + 1 ∧ (p.2 = true → ∀ j, j < p.1 → ¬ Sol (edges' l) (passes (edges' l) j (fun _ => 0))) ∧ (p.2 = false → Sol (edges' l) (passes (edges' l) p.1 (fun _ => 0))))
      (fun p => [(1, .pointer (some ⟨b1, 0, none⟩)), (6, .slice (some ⟨b, 0, none⟩) N N), (7, .bool p.2), (8, .int .i64 p.1)])
      (fun p => [(b, .cells ⟨ivec N (passes (edges' l) p.1 (fun _ => 0))⟩ 3 (0, 0)), (b1, .cells ⟨netCells N A l.length cap⟩ 24 (0, 0))]) (fun p => N + 1 - p.1) (0, true) ⟨by omega, fun _ j hj => by omega, fun h => by cases h⟩ (by repeat (first | exact EnvSub.nil | refine EnvSub.cons rfl (by first | rfl | (congr 1; done) | (exact congrArg (Value.int _) (by omega)) | (simp; done)) ?_)) (by repeat (first | exact MSub.nil | refine MSub.keep (by first | rfl | assumption) ?_ | refine MSub.drop ?_ | exact MSub.refl _)) ?_
    rintro ⟨k, c⟩ ⟨hk, hT, hS⟩
    simp only at hk hT hS
    have hEnd : ∀ t, Sol (edges' l) t → t = passes (edges' l) k (fun _ => 0) → ∃ L, ear N l = some L ∧ ivec N t = ivec N L := by
      rintro t hs rfl
      obtain ⟨L, h1, h2⟩ := ear_of h0 ((sol_least hF.inE' hs).congr fun e => by rw [edges'_mem, edges_mem])
      exact ⟨L, h1, ivec_congr h2⟩
    by_cases hlt : k ≤ N
    · cases c with
      | true =>
        have hw := passes_within hF c3 k
        repeat (first | refine l_val rfl rfl (by first | exact pureEval_ok rfl | exact v_load rfl (by repeat (first | exact List.Mem.head _ | apply List.Mem.tail)) rfl (by rfl) ) ?_ | refine l_nil ?_ | refine c_region ?_ | refine c_seq ?_ | refine x_then ?_ | refine c_true rfl ?_ | refine c_block ?_ | refine c_skip ?_ | refine l_dec_t rfl rfl rfl rfl rfl (by first | omega ) ?_ )
        refine r_callu (ι := Unit) (v := fun _ => .tuple ⟨[.slice (some ⟨b, 0, none⟩) N N, .bool (l.foldl lat1 (passes (edges' l) k (fun _ => 0), false)).2]⟩) (o' := fun _ => .cells ⟨ivec N (l.foldl lat1 (passes (edges' l) k (fun _ => 0), false)).1⟩ 3 (0, 0)) rfl rfl rfl (by repeat (first | exact List.Mem.head _ | apply List.Mem.tail)) (fun _ => (by repeat (first | exact Upd.head | apply Upd.tail)))
          (fun W hW hb => later_calls N N A cap b l _ _ W hl (hA.sat hW) hF (Int.le_refl _) hw (by omega) hb (fun a ha hne => ?_)) (fun _ => ?_)
        · have hnb := (hW.own (b, .cells ⟨ivec N (passes (edges' l) k (fun _ => 0))⟩ 3 (0, 0)) (by repeat (first | exact List.Mem.head _ | apply List.Mem.tail))).1
          obtain ⟨x, l', rfl⟩ := List.exists_cons_of_ne_nil hne
          obtain ⟨b', o, h1, h2⟩ := hA 0 (lkE x) rfl
          rw [ha] at h1
          cases h1
          exact fun e => hnb (by have := lt_of_cell (h2 0 _ rfl); simp only at e; subst e; exact this)
        · have hfst : (l.foldl lat1 (passes (edges' l) k (fun _ => 0), false)).1 = passes (edges' l) (k + 1) (fun _ => 0) := by
            rw [← lat_fold, flagged_fold_fst]; rfl
          have hsnd := flagged_false (edges' l) (passes (edges' l) k (fun _ => 0))
          rw [lat_fold] at hsnd
          rw [hfst]
          obtain ⟨c', hc'⟩ : ∃ c', (l.foldl lat1 (passes (edges' l) k (fun _ => 0), false)).2 = c' := ⟨_, rfl⟩
          rw [hc'] at hsnd ⊢
          repeat (first | refine l_val rfl rfl (by first | exact v_add rfl rfl (by omega) (by omega) | exact pureEval_ok rfl ) ?_ | refine l_nil ?_ | refine c_region ?_ | refine x_then ?_ | refine x_block ?_ )
          refine x_back (k + 1, c') ⟨by omega, fun hc j hj => ?_, fun hc => ?_⟩ (by simp only; omega) (by repeat (first | exact EnvSub.nil | refine EnvSub.cons rfl (by first | rfl | (congr 1; done) | (exact congrArg (Value.int _) (by omega)) | (simp; done)) ?_)) (by repeat (first | exact MSub.nil | refine MSub.keep (by first | rfl | assumption) ?_ | refine MSub.drop ?_ | exact MSub.refl _))
          · by_cases hjk : j = k
            · subst hjk; exact fun h => by have := hsnd.2 h; simp only at hc; rw [hc] at this; cases this
            · exact hT rfl j (by simp only at hj; omega)
          · have h1 := hsnd.1 hc
            show Sol (edges' l) (pass (edges' l) _)
            rw [pass_kept h1]; exact h1
      | false =>
        obtain ⟨L, h1, h2⟩ := hEnd _ (hS rfl) rfl
        repeat (first | refine l_val rfl rfl (by first | exact pureEval_ok rfl | exact v_load rfl (by repeat (first | exact List.Mem.head _ | apply List.Mem.tail)) rfl (by rfl) ) ?_ | refine l_nil ?_ | refine c_region ?_ | refine c_seq ?_ | refine x_then ?_ | refine c_false rfl ?_ | refine c_skip ?_ | refine c_ret ?_ | refine c_exit ?_ | refine x_then_exit ?_ | refine x_block_same ?_ | refine l_dec_t rfl rfl rfl rfl rfl (by first | omega ) ?_ )
        refine x_ret rfl rfl (by repeat (first | exact Res.nil | (apply Res.tmp; rfl) | (apply Res.cell; rfl; exact (by repeat (first | exact List.Mem.head _ | apply List.Mem.tail)); rfl; rfl))) rfl (fun W hW => .inr ⟨L, b, h1, rfl, hW.below, ?_⟩)
        have h := hW.own _ (by repeat (first | exact List.Mem.head _ | apply List.Mem.tail))
        exact ⟨Nat.le_of_not_lt h.1, h.2.trans (by rw [h2]; rfl)⟩
    · have hkl : k = N + 1 := by omega
      subst hkl
      cases c with
      | true =>
        repeat (first | refine l_val rfl rfl (by first | exact pureEval_ok rfl | exact v_load rfl (by repeat (first | exact List.Mem.head _ | apply List.Mem.tail)) rfl (by rfl) ) ?_ | refine l_nil ?_ | refine c_region ?_ | refine c_seq ?_ | refine x_then ?_ | refine l_skip rfl rfl ?_ | refine c_true rfl ?_ | refine c_false rfl ?_ | refine c_ret ?_ | refine c_exit ?_ | refine x_then_ret ?_ | refine x_then_exit ?_ | refine x_block_same ?_ | refine l_dec_f rfl rfl rfl rfl rfl (by first | omega ) ?_ )
        refine x_ret rfl rfl (by repeat (first | exact Res.nil | (apply Res.tmp; rfl) | (apply Res.cell; rfl; exact (by repeat (first | exact List.Mem.head _ | apply List.Mem.tail)); rfl; rfl))) rfl (fun W hW => .inl ⟨ear_no fun s hs => ?_, by rw [h0]; rfl, hW.below⟩)
        exact none_sol hF.inE' (Nat.le_refl _) (hT rfl N (by omega)) s ((sol_same l s).1 hs)
      | false =>
        obtain ⟨L, h1, h2⟩ := hEnd _ (hS rfl) rfl
        repeat (first | refine l_val rfl rfl (by first | exact pureEval_ok rfl | exact v_load rfl (by repeat (first | exact List.Mem.head _ | apply List.Mem.tail)) rfl (by rfl) ) ?_ | refine l_nil ?_ | refine c_region ?_ | refine c_seq ?_ | refine x_then ?_ | refine l_skip rfl rfl ?_ | refine c_false rfl ?_ | refine c_skip ?_ | refine c_ret ?_ | refine c_exit ?_ | refine x_then_exit ?_ | refine x_block_same ?_ | refine l_dec_f rfl rfl rfl rfl rfl (by first | omega ) ?_ )
        refine x_ret rfl rfl (by repeat (first | exact Res.nil | (apply Res.tmp; rfl) | (apply Res.cell; rfl; exact (by repeat (first | exact List.Mem.head _ | apply List.Mem.tail)); rfl; rfl))) rfl (fun W hW => .inr ⟨L, b, h1, rfl, hW.below, ?_⟩)
        have h := hW.own _ (by repeat (first | exact List.Mem.head _ | apply List.Mem.tail))
        exact ⟨Nat.le_of_not_lt h.1, h.2.trans (by rw [h2]; rfl)⟩

theorem earQ_none {f : FuncId} {args : Array Value} {n : Int} {l : List Lk} {w : World} (h : Calls Try.prog f args w (EarQ n l w)) (he : ear n l = none) :
    Calls Try.prog f args w fun e w' => e = .returned (noV (chk n l)) ∧ Below w.heap.size w w' := h.mono fun e w' q => by
  rcases q with ⟨_, h1, h2⟩ | ⟨L, b, h1, _⟩
  · exact ⟨h1, h2⟩
  · rw [he] at h1; cases h1
theorem earQ_some {f : FuncId} {args : Array Value} {n : Int} {l : List Lk} {w : World} {L : Nat → Int} (h : Calls Try.prog f args w (EarQ n l w)) (he : ear n l = some L) :
    Calls Try.prog f args w fun e w' => ∃ b, e = .returned (yesV n.toNat b) ∧ Below w.heap.size w w' ∧ w.heap.size ≤ b ∧ w'.heap[b]? = some (.cells ⟨ivec n.toNat L⟩ 3 (0, 0)) := h.mono fun e w' q => by
  rcases q with ⟨h1, _⟩ | ⟨L', b, h1, h2, h3, h4, h5⟩
  · rw [he] at h1; cases h1
  · rw [he] at h1; cases h1; exact ⟨b, h2, h3, h4, h5⟩

theorem rRefuted_calls (n : Int) (A : Option Addr) (cap : Nat) (l : List Lk) (w : World) (hl : l.length ≤ 1000) (hA : At w A 4 (l.map lkE)) :
    Calls Try.prog 23 ⟨[.agg ⟨netCells n A l.length cap⟩]⟩ w fun e w' => e = .returned (.tuple ⟨[.bool (decide (chk n l = 0 ∧ ear n l = none)), .int .i64 (chk n l)]⟩) ∧ Below w.heap.size w w' := by
  refine fun_enter Try.func23 rfl Try.ntmps23 rfl rfl (satW_nil w) ?_
  repeat (first | refine l_val rfl rfl (by first | exact pureEval_ok rfl | exact v_load rfl (by repeat (first | exact List.Mem.head _ | apply List.Mem.tail)) rfl (by rfl) ) ?_ | refine l_nil ?_ | refine c_region ?_ | refine c_seq ?_ | refine x_then ?_ | refine r_box rfl rfl rfl rfl (fun _ => ?_) )
  cases he : ear n l with
  | none =>
    refine r_call rfl rfl rfl (fun W hW => earQ_none (rEar_calls n A cap l W hl (hA.sat hW)) he) ?_
    by_cases hc : chk n l = 0
    · repeat (first | refine l_val rfl rfl (by first | exact pureEval_ok rfl ) ?_ | refine l_nil ?_ | refine c_region ?_ | refine c_seq ?_ | refine x_then ?_ | refine c_ret ?_ | refine l_dec_t rfl rfl rfl rfl rfl (by first | omega ) ?_ )
      refine x_ret rfl rfl (by repeat (first | exact Res.nil | (apply Res.tmp; rfl) | (apply Res.cell; rfl; exact (by repeat (first | exact List.Mem.head _ | apply List.Mem.tail)); rfl; rfl))) rfl (fun W hW => ⟨?_, hW.below⟩)
      rw [decide_eq_true ⟨hc, rfl⟩]; rfl
    · repeat (first | refine l_val rfl rfl (by first | exact pureEval_ok rfl ) ?_ | refine l_nil ?_ | refine c_region ?_ | refine c_seq ?_ | refine x_then ?_ | refine l_skip rfl rfl ?_ | refine c_ret ?_ | refine l_dec_f rfl rfl rfl rfl rfl (by first | omega ) ?_ )
      refine x_ret rfl rfl (by repeat (first | exact Res.nil | (apply Res.tmp; rfl) | (apply Res.cell; rfl; exact (by repeat (first | exact List.Mem.head _ | apply List.Mem.tail)); rfl; rfl))) rfl (fun W hW => ⟨?_, hW.below⟩)
      rw [decide_eq_false (fun h => hc h.1)]
  | some L =>
    have hc := (ear_least he).1
    refine r_call1 (ι := Nat) (bk := fun b => b) rfl rfl rfl (fun W hW => earQ_some (rEar_calls n A cap l W hl (hA.sat hW)) he) (fun b5 => ?_)
    repeat (first | refine l_val rfl rfl (by first | exact pureEval_ok rfl ) ?_ | refine l_nil ?_ | refine c_region ?_ | refine c_seq ?_ | refine x_then ?_ | refine c_ret ?_ )
    refine x_ret rfl rfl (by repeat (first | exact Res.nil | (apply Res.tmp; rfl) | (apply Res.cell; rfl; exact (by repeat (first | exact List.Mem.head _ | apply List.Mem.tail)); rfl; rfl))) rfl (fun W hW => ⟨?_, hW.below⟩)
    rw [decide_eq_false (fun h => by cases h.2), hc]; rfl
end R22
end Go.Proofs
