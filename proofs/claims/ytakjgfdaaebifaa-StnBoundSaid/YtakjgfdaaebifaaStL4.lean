/- StnEarliestSpec and StnEither, walked. -/
import Derived.Test.YtakjgfdaaebifaaStSane
set_option linter.unusedSectionVars false
set_option linter.unusedVariables false
set_option linter.unusedSimpArgs false
namespace Go.Proofs
open Go.RowKit Go.Kin Go.Kin.St
namespace R22

/-- the earliest times, as a list -/
def lst (n : Int) (L : Nat → Int) : List Int := (List.range n.toNat).map L
theorem lst_len (n : Int) (L : Nat → Int) : (lst n L).length = n.toNat := by simp [lst]
theorem lst_rows (n : Int) (L : Nat → Int) : ivec n.toNat L = ((lst n L).map inE).flatten ++ [] := by
  simp only [lst, List.append_nil]
  unfold ivec vec
  generalize List.range n.toNat = R
  induction R with
  | nil => rfl
  | cons x R ih => simp only [List.map_cons, List.flatten_cons, inE, ih, List.cons_append, List.nil_append]
theorem lst_rows2 (n : Int) (L : Nat → Int) : ivec (lst n L).length L = ((lst n L).map inE).flatten ++ [] := by rw [lst_len]; exact lst_rows n L
theorem lst_tf {n : Int} {L : Nat → Int} {x : Nat} (h : x < n.toNat) : tf (lst n L) x = L x := by
  unfold tf lst
  rw [List.getD_eq_getElem?_getD, List.getElem?_map, List.getElem?_range h]; rfl

theorem same_same (T U : Option Addr) (capT capU : Nat) (t : List Int) (w : World) (ht : t.length ≤ 1000) (hT : At w T 1 (t.map inE)) (hU : At w U 1 (t.map inE)) :
    Calls Try.prog 24 ⟨[.slice T t.length capT, .slice U t.length capU]⟩ w fun e w' => e = .returned (.bool true) ∧ Below w.heap.size w w' := by
  have := Same_calls T U capT capU t t w ht ht hT hU
  rw [decide_eq_true rfl] at this
  exact this
theorem noV_eq (e : Int) : noV e = .tuple ⟨[.slice none 0 0, .bool false, .int .i64 e]⟩ := rfl

set_option maxRecDepth 100000 in
set_option maxHeartbeats 4000000 in
theorem stnEarliestSpec_calls (n : Int) (A : Option Addr) (cap : Nat) (l : List Lk) (a b : Int) (w : World) (hA : At w A 4 (l.map lkE)) :
    Calls Try.prog 4 ⟨[.agg ⟨netCells n A l.length cap⟩, .int .i64 a, .int .i64 b]⟩ w fun e w' => e = .returned (.bool true) ∧ Below w.heap.size w w' := by
  refine fun_enter Try.func4 rfl Try.ntmps4 rfl rfl (satW_nil w) ?_
  repeat (first | refine l_val rfl rfl (by first | exact pureEval_ok rfl ) ?_ | refine l_nil ?_ | refine c_region ?_ | refine c_seq ?_ | refine x_then ?_ | refine r_box rfl rfl rfl rfl (fun _ => ?_) )
  refine r_call rfl rfl rfl (fun W hW => sane_calls W) ?_
  repeat (first | refine l_val rfl rfl (by first | exact pureEval_ok rfl | exact v_load rfl (by repeat (first | exact List.Mem.head _ | apply List.Mem.tail)) rfl (by rfl) ) ?_ | refine l_nil ?_ | refine c_region ?_ | refine c_seq ?_ | refine x_then ?_ | refine c_false rfl ?_ | refine c_skip ?_ )
  refine r_call rfl rfl rfl (fun W hW => Few_calls n A l.length cap W) ?_
  by_cases h1 : (l.length : Int) ≤ 300
  · rw [decide_eq_true h1]
    obtain ⟨bd, hbd⟩ : ∃ bd, bnd n l a b = bd := ⟨_, rfl⟩
    cases he : ear n l with
    | none =>
      repeat (first | refine l_val rfl rfl (by first | exact pureEval_ok rfl | exact v_load rfl (by repeat (first | exact List.Mem.head _ | apply List.Mem.tail)) rfl (by rfl) ) ?_ | refine l_nil ?_ | refine c_region ?_ | refine c_seq ?_ | refine x_then ?_ | refine c_false rfl ?_ | refine c_skip ?_ )
      refine r_call rfl rfl rfl (fun W hW => earQ_none (Ear_calls n A cap l W (by omega) (hA.sat hW)) he) ?_
      repeat (first | refine l_val rfl rfl (by first | exact pureEval_ok rfl | exact v_load rfl (by repeat (first | exact List.Mem.head _ | apply List.Mem.tail)) rfl (by rfl) ) ?_ | refine l_nil ?_ | refine c_region ?_ | refine c_seq ?_ | refine x_then ?_ )
      refine r_call rfl rfl rfl (fun W hW => earQ_none (rEar_calls n A cap l W (by omega) (hA.sat hW)) he) ?_
      repeat (first | refine l_val rfl rfl (by first | exact pureEval_ok rfl | exact v_load rfl (by repeat (first | exact List.Mem.head _ | apply List.Mem.tail)) rfl (by rfl) ) ?_ | refine l_nil ?_ | refine c_region ?_ | refine c_seq ?_ | refine x_then ?_ )
      refine r_call rfl rfl rfl (fun W hW => hbd ▸ Bound_calls n a b A cap l W (by omega) (hA.sat hW)) ?_
      repeat (first | refine l_val rfl rfl (by first | exact pureEval_ok rfl | exact v_load rfl (by repeat (first | exact List.Mem.head _ | apply List.Mem.tail)) rfl (by rfl) ) ?_ | refine l_nil ?_ | refine c_region ?_ | refine c_seq ?_ | refine x_then ?_ )
      refine r_call rfl rfl rfl (fun W hW => hbd ▸ rBound_calls n a b A cap l W (by omega) (hA.sat hW)) ?_
      repeat (first | refine l_val rfl rfl (by first | exact pureEval_ok rfl | exact v_load rfl (by repeat (first | exact List.Mem.head _ | apply List.Mem.tail)) rfl (by rfl) ) ?_ | refine l_nil ?_ | refine c_region ?_ | refine c_seq ?_ | refine x_then ?_ )
      by_cases hc : chk n l = 0
      · refine r_call1 (ι := Cyc l) (bk := fun i => i.b) rfl rfl rfl (fun W hW => refQ_yes (Refute_calls n A cap l W (by omega) (hA.sat hW)) hc he) (fun cy => ?_)
        repeat (first | refine l_val rfl rfl (by first | exact pureEval_ok rfl | exact v_load rfl (by repeat (first | exact List.Mem.head _ | apply List.Mem.tail)) rfl (by rfl) ) ?_ | refine l_nil ?_ | refine c_region ?_ | refine c_seq ?_ | refine x_then ?_ )
        refine r_call rfl rfl rfl (fun W hW => rRefuted_calls n A cap l W (by omega) (hA.sat hW)) ?_
        rw [decide_eq_true (⟨hc, he⟩ : chk n l = 0 ∧ ear n l = none), hc]
        repeat (first | refine l_val rfl rfl (by first | exact pureEval_ok rfl ) ?_ | refine l_nil ?_ | refine c_region ?_ | refine c_seq ?_ | refine x_then ?_ )
        refine r_call rfl rfl rfl (fun W hW => same_same none none 0 0 [] W (by decide) (at_nil _ _) (at_nil _ _)) ?_
        repeat (first | refine l_val rfl rfl (by first | exact pureEval_ok rfl | exact v_load rfl (by repeat (first | exact List.Mem.head _ | apply List.Mem.tail)) rfl (by rfl) ) ?_ | refine l_nil ?_ | refine c_region ?_ | refine c_seq ?_ | refine x_then ?_ | refine c_false rfl ?_ | refine c_skip ?_ | refine l_dec_f rfl rfl rfl rfl rfl (by first | omega | exact fun h => h rfl ) ?_ )
        have hac : acV n l cy.us = .tuple ⟨[.bool true, .int .i64 0]⟩ := by
          unfold acV; rw [ac_ok hc (Nat.pos_of_ne_zero fun h => cy.ne (List.eq_nil_of_length_eq_zero h)) (by have := cy.le; omega), cy.ok, hc]
        have hle := cy.le
        refine r_call rfl rfl rfl (fun W hW => hac ▸ rAccepts_calls n A (some ⟨cy.b, 0, none⟩) cap cy.cap l cy.us W (by omega) (by omega) (hA.sat hW) (hW.rows (b := cy.b) (by repeat (first | exact List.Mem.head _ | apply List.Mem.tail)) (congrArg (· ++ cy.rest) (flat_us cy.us)) (us_len _))) ?_
        repeat (first | refine l_val rfl rfl (by first | exact pureEval_ok rfl ) ?_ | refine l_nil ?_ | refine c_region ?_ | refine c_seq ?_ | refine x_then ?_ | refine c_ret ?_ )
        exact x_ret rfl rfl (by repeat (first | exact Res.nil | (apply Res.tmp; rfl) | (apply Res.cell; rfl; exact (by repeat (first | exact List.Mem.head _ | apply List.Mem.tail)); rfl; rfl))) rfl (fun W hW => ⟨by first | rfl | (simp; done) | (simp_all; done), hW.below⟩)
      · refine r_call rfl rfl rfl (fun W hW => refQ_no (Refute_calls n A cap l W (by omega) (hA.sat hW)) (.inl hc)) ?_
        repeat (first | refine l_val rfl rfl (by first | exact pureEval_ok rfl | exact v_load rfl (by repeat (first | exact List.Mem.head _ | apply List.Mem.tail)) rfl (by rfl) ) ?_ | refine l_nil ?_ | refine c_region ?_ | refine c_seq ?_ | refine x_then ?_ )
        refine r_call rfl rfl rfl (fun W hW => rRefuted_calls n A cap l W (by omega) (hA.sat hW)) ?_
        rw [decide_eq_false (fun h => hc h.1)]
        repeat (first | refine l_val rfl rfl (by first | exact pureEval_ok rfl ) ?_ | refine l_nil ?_ | refine c_region ?_ | refine c_seq ?_ | refine x_then ?_ )
        refine r_call rfl rfl rfl (fun W hW => same_same none none 0 0 [] W (by decide) (at_nil _ _) (at_nil _ _)) ?_
        repeat (first | refine l_val rfl rfl (by first | exact pureEval_ok rfl ) ?_ | refine l_nil ?_ | refine c_region ?_ | refine c_seq ?_ | refine x_then ?_ | refine c_true rfl ?_ | refine c_dec_f rfl (by first | omega ) ?_ | refine c_skip ?_ | refine c_ret ?_ | refine x_then_ret ?_ | refine l_dec_f rfl rfl rfl rfl rfl (by first | omega | exact fun h => h rfl ) ?_ )
        exact x_ret rfl rfl (by repeat (first | exact Res.nil | (apply Res.tmp; rfl) | (apply Res.cell; rfl; exact (by repeat (first | exact List.Mem.head _ | apply List.Mem.tail)); rfl; rfl))) rfl (fun W hW => ⟨by first | rfl | (simp; done) | (simp_all; done), hW.below⟩)
    | some L =>
      have hc := (ear_least he).1
      obtain ⟨c1, c2, c3, hF⟩ := chk_fine hc
      repeat (first | refine l_val rfl rfl (by first | exact pureEval_ok rfl | exact v_load rfl (by repeat (first | exact List.Mem.head _ | apply List.Mem.tail)) rfl (by rfl) ) ?_ | refine l_nil ?_ | refine c_region ?_ | refine c_seq ?_ | refine x_then ?_ | refine c_false rfl ?_ | refine c_skip ?_ )
      refine r_call1 (ι := Nat) (bk := fun b => b) rfl rfl rfl (fun W hW => earQ_some (Ear_calls n A cap l W (by omega) (hA.sat hW)) he) (fun b1 => ?_)
      repeat (first | refine l_val rfl rfl (by first | exact pureEval_ok rfl | exact v_load rfl (by repeat (first | exact List.Mem.head _ | apply List.Mem.tail)) rfl (by rfl) ) ?_ | refine l_nil ?_ | refine c_region ?_ | refine c_seq ?_ | refine x_then ?_ )
      refine r_call1 (ι := Nat) (bk := fun b => b) rfl rfl rfl (fun W hW => earQ_some (rEar_calls n A cap l W (by omega) (hA.sat hW)) he) (fun b2 => ?_)
      repeat (first | refine l_val rfl rfl (by first | exact pureEval_ok rfl | exact v_load rfl (by repeat (first | exact List.Mem.head _ | apply List.Mem.tail)) rfl (by rfl) ) ?_ | refine l_nil ?_ | refine c_region ?_ | refine c_seq ?_ | refine x_then ?_ )
      refine r_call rfl rfl rfl (fun W hW => hbd ▸ Bound_calls n a b A cap l W (by omega) (hA.sat hW)) ?_
      repeat (first | refine l_val rfl rfl (by first | exact pureEval_ok rfl | exact v_load rfl (by repeat (first | exact List.Mem.head _ | apply List.Mem.tail)) rfl (by rfl) ) ?_ | refine l_nil ?_ | refine c_region ?_ | refine c_seq ?_ | refine x_then ?_ )
      refine r_call rfl rfl rfl (fun W hW => hbd ▸ rBound_calls n a b A cap l W (by omega) (hA.sat hW)) ?_
      repeat (first | refine l_val rfl rfl (by first | exact pureEval_ok rfl | exact v_load rfl (by repeat (first | exact List.Mem.head _ | apply List.Mem.tail)) rfl (by rfl) ) ?_ | refine l_nil ?_ | refine c_region ?_ | refine c_seq ?_ | refine x_then ?_ )
      refine r_call rfl rfl rfl (fun W hW => refQ_no (Refute_calls n A cap l W (by omega) (hA.sat hW)) (.inr (by rw [he]; intro h; cases h))) ?_
      repeat (first | refine l_val rfl rfl (by first | exact pureEval_ok rfl | exact v_load rfl (by repeat (first | exact List.Mem.head _ | apply List.Mem.tail)) rfl (by rfl) ) ?_ | refine l_nil ?_ | refine c_region ?_ | refine c_seq ?_ | refine x_then ?_ )
      refine r_call rfl rfl rfl (fun W hW => rRefuted_calls n A cap l W (by omega) (hA.sat hW)) ?_
      rw [decide_eq_false (fun h => by rw [he] at h; cases h.2), hc]
      repeat (first | refine l_val rfl rfl (by first | exact pureEval_ok rfl ) ?_ | refine l_nil ?_ | refine c_region ?_ | refine c_seq ?_ | refine x_then ?_ )
      have hln : (lst n L).length = n.toNat := lst_len n L
      rw [← hln]
      refine r_call rfl rfl rfl (fun W hW => same_same (some ⟨b1, 0, none⟩) (some ⟨b2, 0, none⟩) _ _ (lst n L) W (by omega) (hW.rows (b := b1) (by repeat (first | exact List.Mem.head _ | apply List.Mem.tail)) (lst_rows2 n L) (in_len _)) (hW.rows (b := b2) (by repeat (first | exact List.Mem.head _ | apply List.Mem.tail)) (lst_rows2 n L) (in_len _))) ?_
      repeat (first | refine l_val rfl rfl (by first | exact pureEval_ok rfl ) ?_ | refine l_nil ?_ | refine c_region ?_ | refine c_seq ?_ | refine x_then ?_ | refine c_true rfl ?_ | refine c_false rfl ?_ | refine c_skip ?_ | refine c_ret ?_ | refine x_then_ret ?_ | refine l_dec_f rfl rfl rfl rfl rfl (by first | omega | exact fun h => h rfl ) ?_ )
      exact x_ret rfl rfl (by repeat (first | exact Res.nil | (apply Res.tmp; rfl) | (apply Res.cell; rfl; exact (by repeat (first | exact List.Mem.head _ | apply List.Mem.tail)); rfl; rfl))) rfl (fun W hW => ⟨by first | rfl | (simp; done) | (simp_all; done), hW.below⟩)
  · rw [decide_eq_false h1]
    repeat (first | refine l_val rfl rfl (by first | exact pureEval_ok rfl ) ?_ | refine l_nil ?_ | refine c_region ?_ | refine c_seq ?_ | refine x_then ?_ | refine c_true rfl ?_ | refine c_ret ?_ | refine x_then_ret ?_ )
    exact x_ret rfl rfl (by repeat (first | exact Res.nil | (apply Res.tmp; rfl) | (apply Res.cell; rfl; exact (by repeat (first | exact List.Mem.head _ | apply List.Mem.tail)); rfl; rfl))) rfl (fun W hW => ⟨by first | rfl | (simp; done) | (simp_all; done), hW.below⟩)
end R22
end Go.Proofs
