/- The statements' own examples, walked. -/
import Derived.Test.YtakjgfdaaebifaaStAcp
import Derived.Test.YtakjgfdaaebifaaStRefW
set_option linter.unusedSectionVars false
set_option linter.unusedVariables false
set_option linter.unusedSimpArgs false
namespace Go.Proofs
open Go.RowKit Go.Kin Go.Kin.St
namespace R22

theorem lk_len (l : List Lk) : ∀ r ∈ l.map lkE, r.length = 4 := fun r hr => by obtain ⟨x, _, rfl⟩ := List.mem_map.1 hr; rfl
theorem in_len (l : List Int) : ∀ r ∈ l.map inE, r.length = 1 := fun r hr => by obtain ⟨x, _, rfl⟩ := List.mem_map.1 hr; rfl
theorem us_len (l : List Us) : ∀ r ∈ l.map usE, r.length = 2 := fun r hr => by obtain ⟨x, _, rfl⟩ := List.mem_map.1 hr; rfl

theorem refQ_no {f : FuncId} {args : Array Value} {n : Int} {l : List Lk} {w : World} (h : Calls Try.prog f args w (RefQ n l w)) (hn : chk n l ≠ 0 ∨ ear n l ≠ none) :
    Calls Try.prog f args w fun e w' => e = .returned (noV (chk n l)) ∧ Below w.heap.size w w' := h.mono fun e w' q => by
  rcases q with ⟨_, h1, h2⟩ | ⟨h1, h2, _⟩
  · exact ⟨h1, h2⟩
  · exact absurd hn (by rintro (h | h); exact h h1; exact h h2)
/-- a cycle that is handed back -/
structure Cyc (l : List Lk) where
  us : List Us
  b : Nat
  cap : Nat
  rest : List Value
  ne : us ≠ []
  le : us.length ≤ 64
  ok : accepts l us = true
theorem refQ_yes {f : FuncId} {args : Array Value} {n : Int} {l : List Lk} {w : World} (h : Calls Try.prog f args w (RefQ n l w)) (h0 : chk n l = 0) (he : ear n l = none) :
    Calls Try.prog f args w fun e w' => ∃ i : Cyc l, e = .returned (.tuple ⟨[.slice (some ⟨i.b, 0, none⟩) i.us.length i.cap, .bool true, .int .i64 0]⟩) ∧ Below w.heap.size w w' ∧ w.heap.size ≤ i.b ∧
      w'.heap[i.b]? = some (.cells ⟨flat i.us.length (fun j => usE (i.us.getD j ⟨0, false⟩)) ++ i.rest⟩ 56 (0, 0)) := h.mono fun e w' q => by
  rcases q with ⟨h1 | h1, _⟩ | ⟨_, _, us, b, cap, h1, h2, h3, h4, h5, h6, rest, h7⟩
  · exact absurd h0 h1
  · exact absurd he h1
  · exact ⟨⟨us, b, cap, rest, h1, h2, h3⟩, h4, h5, h6, h7⟩
theorem flat_us (us : List Us) : flat us.length (fun j => usE (us.getD j ⟨0, false⟩)) = (us.map usE).flatten := by
  rw [flat_flatten]
  congr 1
  apply List.ext_getElem?
  intro j
  by_cases hj : j < us.length
  · simp only [List.getElem?_map, List.getElem?_range hj, Option.map_some, List.getElem?_eq_getElem hj, List.getD_eq_getElem?_getD, Option.getD_some]
  · rw [List.getElem?_eq_none (by simp; omega), List.getElem?_eq_none (by simp; omega)]

/-! ## The examples -/
def one : List Lk := [⟨0, 1, 3, 5⟩]
def bad : List Lk := [⟨0, 1, 3, 5⟩, ⟨1, 0, -2, 0⟩]
theorem chk_one : chk 2 one = 0 := chk_0 (by omega) (by decide) (by intro x hx; simp only [one, List.mem_singleton] at hx; subst hx; simp only [Lk.Fine]; omega)
theorem chk_bad : chk 2 bad = 0 := chk_0 (by omega) (by decide) (by intro x hx; simp only [bad, List.mem_cons, List.not_mem_nil, or_false] at hx; rcases hx with rfl | rfl <;> (simp only [Lk.Fine]; omega))
theorem chk_free : chk 2 [] = 0 := chk_0 (by omega) (by decide) (by intro x hx; cases hx)
theorem chk_loop : chk 1 [⟨0, 0, 0, 0⟩] = 220 := chk_220 (by omega) (by decide) (fun h => by have := h _ List.mem_cons_self; simp only [Lk.Fine] at this; omega)
theorem chk_none : chk 0 [] = 1 := chk_1 (by omega)
theorem ear_bad0 : ear 2 bad = none := ear_no fun t h => by
  have h1 := h (dn ⟨0, 1, 3, 5⟩) (by simp [bad, edges])
  have h2 := h (dn ⟨1, 0, -2, 0⟩) (by simp [bad, edges])
  simp only [dn] at h1 h2
  omega
theorem ear_one : ∃ L, ear 2 one = some L ∧ L 0 = 0 ∧ L 1 = 3 := by
  have hl : Least (2 : Int).toNat (edges one) (fun _ => 0) (fun x => if x = 1 then 3 else 0) := by
    refine ⟨(sol_links _ _).2 fun x hx => ?_, fun x _ => ?_, fun s hs hp x hx => ?_⟩
    · simp only [one, List.mem_singleton] at hx
      subst hx
      simp
    · show (0 : Int) ≤ if x = 1 then 3 else 0
      split <;> omega
    · have h1 := (sol_links _ _).1 hs ⟨0, 1, 3, 5⟩ (by simp [one])
      simp only [show (0 : Int).toNat = 0 from rfl, show (1 : Int).toNat = 1 from rfl] at h1
      have h0 := hp 0 (by decide)
      have h2 := hp x hx
      show (if x = 1 then (3 : Int) else 0) ≤ s x
      split
      · rename_i e; subst e; omega
      · exact h2
  obtain ⟨L, h1, h2⟩ := ear_of chk_one hl
  exact ⟨L, h1, (h2 0 (by decide)).symm, (h2 1 (by decide)).symm⟩
theorem ear_free : ∃ L, ear 2 [] = some L := by
  obtain ⟨L, h1, _⟩ := ear_of (t := fun _ => 0) chk_free ⟨(fun e he => by cases he), fun _ _ => Int.le_refl _, fun s _ hp => hp⟩
  exact ⟨L, h1⟩
theorem bnd_free : bnd 2 [] 0 1 = (0, false, 0) := by
  obtain ⟨L, h⟩ := ear_free
  unfold bnd
  rw [if_neg (by rw [chk_free]; decide), if_pos (by decide), h]; rfl
theorem bnd_one : bnd 2 one 1 0 = (-3, true, 0) := by
  obtain ⟨L, h, _⟩ := ear_one
  unfold bnd
  rw [if_neg (by rw [chk_one]; decide), if_pos (by decide), h]; rfl
theorem bnd_zero : bnd 2 one 0 0 = (0, true, 0) := by
  obtain ⟨L, h, _⟩ := ear_one
  unfold bnd
  rw [if_neg (by rw [chk_one]; decide), if_pos (by decide), h]; rfl
theorem bnd_bad : bnd 2 bad 0 0 = (0, false, 220) := by
  unfold bnd
  rw [if_neg (by rw [chk_bad]; decide), if_pos (by decide), ear_bad0]
theorem mt_free : mtV 2 [] [5, 0] = .tuple ⟨[.bool true, .int .i64 0]⟩ := by
  unfold mtV mtB mtE
  simp only [chk_free]; rfl
theorem mt_one : mtV 2 one [0, 6] = .tuple ⟨[.bool false, .int .i64 0]⟩ := by
  unfold mtV mtB mtE
  simp only [chk_one]; rfl
theorem ac_bad2 : acV 2 bad [⟨0, true⟩, ⟨1, true⟩] = .tuple ⟨[.bool true, .int .i64 0]⟩ := by
  unfold acV acB
  simp only [chk_bad]; rfl
theorem ac_bad0 : acV 2 bad [] = .tuple ⟨[.bool false, .int .i64 0]⟩ := by
  unfold acV acB
  simp only [chk_bad]; rfl

set_option maxRecDepth 100000 in
set_option maxHeartbeats 4000000 in
theorem sane_calls (w : World) : Calls Try.prog 10 ⟨[]⟩ w fun e w' => e = .returned (.bool true) ∧ Below w.heap.size w w' := by
  obtain ⟨L1, hL1, hL10, hL11⟩ := ear_one
  obtain ⟨L0, hL0⟩ := ear_free
  refine fun_enter Try.func10 rfl Try.ntmps10 rfl rfl (satW_nil w) ?_
  repeat (first | refine l_val rfl rfl (by first | exact pureEval_ok rfl | exact v_build rfl rfl (by rfl) ) ?_ | refine l_nil ?_ | refine c_region ?_ | refine c_seq ?_ | refine x_then ?_ | refine r_buildSlice rfl rfl rfl rfl rfl rfl (by rfl) (fun _ => ?_) )
  rename_i b1
  refine r_call rfl rfl rfl (fun W hW => net_calls 2 (some ⟨b1, 0, none⟩) 1 1 W) ?_
  repeat (first | refine l_val rfl rfl (by first | exact v_build rfl rfl (by rfl) ) ?_ | refine l_nil ?_ | refine c_region ?_ | refine c_seq ?_ | refine x_then ?_ | refine r_alloc rfl rfl rfl (by first | exact aggL ) (fun _ => ?_) | refine r_store rfl rfl rfl rfl rfl rfl rfl (by repeat (first | exact Upd.head | apply Upd.tail)) (by rfl) ?_ | refine r_buildSlice rfl rfl rfl rfl rfl rfl (by rfl) (fun _ => ?_) )
  rename_i b2 b3
  refine r_call rfl rfl rfl (fun W hW => net_calls 2 (some ⟨b3, 0, none⟩) 2 2 W) ?_
  repeat (first | refine l_nil ?_ | refine c_region ?_ | refine c_seq ?_ | refine x_then ?_ | refine r_alloc rfl rfl rfl (by first | exact aggL ) (fun _ => ?_) | refine r_store rfl rfl rfl rfl rfl rfl rfl (by repeat (first | exact Upd.head | apply Upd.tail)) (by rfl) ?_ )
  rename_i b4
  refine r_call rfl rfl rfl (fun W hW => net_calls 2 none 0 0 W) ?_
  repeat (first | refine l_val rfl rfl (by first | exact v_load rfl (by repeat (first | exact List.Mem.head _ | apply List.Mem.tail)) rfl (by rfl) ) ?_ | refine l_nil ?_ | refine c_region ?_ | refine c_seq ?_ | refine x_then ?_ | refine r_alloc rfl rfl rfl (by first | exact aggL ) (fun _ => ?_) | refine r_store rfl rfl rfl rfl rfl rfl rfl (by repeat (first | exact Upd.head | apply Upd.tail)) (by rfl) ?_ )
  rename_i b5
  have r1 : ∀ {mem : List (Nat × Obj)}, (b1, Obj.cells ⟨[.int .i64 0, .int .i64 1, .int .i64 3, .int .i64 5]⟩ 47 (0, 0)) ∈ mem → ∀ W, SatW w (base w) noJ mem W → At W (some ⟨b1, 0, none⟩) 4 (one.map lkE) :=
    fun hm W hW => hW.rows hm (rest := []) rfl (lk_len _)
  have r3 : ∀ {mem : List (Nat × Obj)}, (b3, Obj.cells ⟨[.int .i64 0, .int .i64 1, .int .i64 3, .int .i64 5, .int .i64 1, .int .i64 0, .int .i64 (-2), .int .i64 0]⟩ 47 (0, 0)) ∈ mem → ∀ W, SatW w (base w) noJ mem W → At W (some ⟨b3, 0, none⟩) 4 (bad.map lkE) :=
    fun hm W hW => hW.rows hm (rest := []) rfl (lk_len _)
  refine r_call1 (ι := Nat) (bk := fun b => b) rfl rfl rfl (fun W hW => earQ_some (Ear_calls 2 (some ⟨b1, 0, none⟩) 1 one W (by decide) (r1 (by repeat (first | exact List.Mem.head _ | apply List.Mem.tail)) W hW)) hL1) (fun b6 => ?_)
  repeat (first | refine l_val rfl rfl (by first | exact pureEval_ok rfl | exact v_load rfl (by repeat (first | exact List.Mem.head _ | apply List.Mem.tail)) rfl (by rfl) ) ?_ | refine l_nil ?_ | refine c_region ?_ | refine c_seq ?_ | refine x_then ?_ )
  refine r_call rfl rfl rfl (fun W hW => earQ_none (Ear_calls 2 (some ⟨b3, 0, none⟩) 2 bad W (by decide) (r3 (by repeat (first | exact List.Mem.head _ | apply List.Mem.tail)) W hW)) ear_bad0) ?_
  rw [chk_bad]
  repeat (first | refine l_val rfl rfl (by first | exact pureEval_ok rfl | exact v_load rfl (by repeat (first | exact List.Mem.head _ | apply List.Mem.tail)) rfl (by rfl) ) ?_ | refine l_nil ?_ | refine c_region ?_ | refine c_seq ?_ | refine x_then ?_ | refine r_buildSlice rfl rfl rfl rfl rfl rfl (by rfl) (fun _ => ?_) )
  rename_i b7
  refine r_call rfl rfl rfl (fun W hW => mt_free ▸ Meets_calls 2 none (some ⟨b7, 0, none⟩) 0 2 [] [5, 0] W (by decide) (by decide) (at_nil _ _) (hW.rows (by repeat (first | exact List.Mem.head _ | apply List.Mem.tail)) (rest := []) rfl (in_len _))) ?_
  repeat (first | refine l_val rfl rfl (by first | exact pureEval_ok rfl | exact v_load rfl (by repeat (first | exact List.Mem.head _ | apply List.Mem.tail)) rfl (by rfl) ) ?_ | refine l_nil ?_ | refine c_region ?_ | refine c_seq ?_ | refine x_then ?_ | refine r_buildSlice rfl rfl rfl rfl rfl rfl (by rfl) (fun _ => ?_) )
  rename_i b8
  refine r_call rfl rfl rfl (fun W hW => mt_one ▸ Meets_calls 2 (some ⟨b1, 0, none⟩) (some ⟨b8, 0, none⟩) 1 2 one [0, 6] W (by decide) (by decide) (r1 (by repeat (first | exact List.Mem.head _ | apply List.Mem.tail)) W hW) (hW.rows (by repeat (first | exact List.Mem.head _ | apply List.Mem.tail)) (rest := []) rfl (in_len _))) ?_
  repeat (first | refine l_val rfl rfl (by first | exact pureEval_ok rfl | exact v_load rfl (by repeat (first | exact List.Mem.head _ | apply List.Mem.tail)) rfl (by rfl) ) ?_ | refine l_nil ?_ | refine c_region ?_ | refine c_seq ?_ | refine x_then ?_ )
  refine r_call rfl rfl rfl (fun W hW => bnd_free ▸ Bound_calls 2 0 1 none 0 [] W (by decide) (at_nil _ _)) ?_
  repeat (first | refine l_val rfl rfl (by first | exact pureEval_ok rfl | exact v_load rfl (by repeat (first | exact List.Mem.head _ | apply List.Mem.tail)) rfl (by rfl) ) ?_ | refine l_nil ?_ | refine c_region ?_ | refine c_seq ?_ | refine x_then ?_ )
  refine r_call rfl rfl rfl (fun W hW => bnd_one ▸ Bound_calls 2 1 0 (some ⟨b1, 0, none⟩) 1 one W (by decide) (r1 (by repeat (first | exact List.Mem.head _ | apply List.Mem.tail)) W hW)) ?_
  repeat (first | refine l_val rfl rfl (by first | exact pureEval_ok rfl | exact v_load rfl (by repeat (first | exact List.Mem.head _ | apply List.Mem.tail)) rfl (by rfl) ) ?_ | refine l_nil ?_ | refine c_region ?_ | refine c_seq ?_ | refine x_then ?_ )
  refine r_call rfl rfl rfl (fun W hW => bnd_zero ▸ Bound_calls 2 0 0 (some ⟨b1, 0, none⟩) 1 one W (by decide) (r1 (by repeat (first | exact List.Mem.head _ | apply List.Mem.tail)) W hW)) ?_
  repeat (first | refine l_val rfl rfl (by first | exact pureEval_ok rfl | exact v_load rfl (by repeat (first | exact List.Mem.head _ | apply List.Mem.tail)) rfl (by rfl) ) ?_ | refine l_nil ?_ | refine c_region ?_ | refine c_seq ?_ | refine x_then ?_ )
  refine r_call rfl rfl rfl (fun W hW => bnd_bad ▸ Bound_calls 2 0 0 (some ⟨b3, 0, none⟩) 2 bad W (by decide) (r3 (by repeat (first | exact List.Mem.head _ | apply List.Mem.tail)) W hW)) ?_
  repeat (first | refine l_val rfl rfl (by first | exact pureEval_ok rfl | exact v_load rfl (by repeat (first | exact List.Mem.head _ | apply List.Mem.tail)) rfl (by rfl) ) ?_ | refine l_nil ?_ | refine c_region ?_ | refine c_seq ?_ | refine x_then ?_ )
  refine r_call1 (ι := Cyc bad) (bk := fun i => i.b) rfl rfl rfl (fun W hW => refQ_yes (Refute_calls 2 (some ⟨b3, 0, none⟩) 2 bad W (by decide) (r3 (by repeat (first | exact List.Mem.head _ | apply List.Mem.tail)) W hW)) chk_bad ear_bad0) (fun cy => ?_)
  repeat (first | refine l_val rfl rfl (by first | exact pureEval_ok rfl | exact v_load rfl (by repeat (first | exact List.Mem.head _ | apply List.Mem.tail)) rfl (by rfl) ) ?_ | refine l_nil ?_ | refine c_region ?_ | refine c_seq ?_ | refine x_then ?_ )
  refine r_call rfl rfl rfl (fun W hW => refQ_no (Refute_calls 2 (some ⟨b1, 0, none⟩) 1 one W (by decide) (r1 (by repeat (first | exact List.Mem.head _ | apply List.Mem.tail)) W hW)) (.inr (by rw [hL1]; intro h; cases h))) ?_
  rw [chk_one]
  repeat (first | refine l_val rfl rfl (by first | exact pureEval_ok rfl | exact v_load rfl (by repeat (first | exact List.Mem.head _ | apply List.Mem.tail)) rfl (by rfl) | exact v_build rfl rfl (by rfl) ) ?_ | refine l_nil ?_ | refine c_region ?_ | refine c_seq ?_ | refine x_then ?_ | refine r_buildSlice rfl rfl rfl rfl rfl rfl (by rfl) (fun _ => ?_) )
  rename_i b9
  refine r_call rfl rfl rfl (fun W hW => ac_bad2 ▸ Accepts_calls 2 (some ⟨b3, 0, none⟩) (some ⟨b9, 0, none⟩) 2 2 bad [⟨0, true⟩, ⟨1, true⟩] W (by decide) (by decide) (r3 (by repeat (first | exact List.Mem.head _ | apply List.Mem.tail)) W hW) (hW.rows (by repeat (first | exact List.Mem.head _ | apply List.Mem.tail)) (rest := []) rfl (us_len _))) ?_
  repeat (first | refine l_val rfl rfl (by first | exact pureEval_ok rfl | exact v_load rfl (by repeat (first | exact List.Mem.head _ | apply List.Mem.tail)) rfl (by rfl) ) ?_ | refine l_nil ?_ | refine c_region ?_ | refine c_seq ?_ | refine x_then ?_ )
  refine r_call rfl rfl rfl (fun W hW => ac_bad0 ▸ Accepts_calls 2 (some ⟨b3, 0, none⟩) none 2 0 bad [] W (by decide) (by decide) (r3 (by repeat (first | exact List.Mem.head _ | apply List.Mem.tail)) W hW) (at_nil _ _)) ?_
  repeat (first | refine l_val rfl rfl (by first | exact pureEval_ok rfl | exact v_build rfl rfl (by rfl) ) ?_ | refine l_nil ?_ | refine c_region ?_ | refine c_seq ?_ | refine x_then ?_ | refine c_false rfl ?_ | refine c_skip ?_ )
  refine r_call rfl rfl rfl (fun W hW => chk_none ▸ check_calls 0 none 0 [] W (by decide) (at_nil _ _)) ?_
  repeat (first | refine l_val rfl rfl (by first | exact pureEval_ok rfl | exact v_build rfl rfl (by rfl) ) ?_ | refine r_buildSlice rfl rfl rfl rfl rfl rfl (by rfl) (fun _ => ?_) | refine l_dec_f rfl rfl rfl rfl rfl (by first | omega | exact fun h => h rfl ) ?_ )
  rename_i b10
  refine r_call rfl rfl rfl (fun W hW => net_calls 1 (some ⟨b10, 0, none⟩) 1 1 W) ?_
  skip
  refine r_call rfl rfl rfl (fun W hW => chk_loop ▸ check_calls 1 (some ⟨b10, 0, none⟩) 1 [⟨0, 0, 0, 0⟩] W (by decide) (hW.rows (by repeat (first | exact List.Mem.head _ | apply List.Mem.tail)) (rest := []) rfl (lk_len _))) ?_
  repeat (first | refine l_val rfl rfl (by first | exact pureEval_ok rfl | exact v_load rfl (by repeat (first | exact List.Mem.head _ | apply List.Mem.tail)) rfl (by rfl) ) ?_ | refine l_dec_f rfl rfl rfl rfl rfl (by first | omega | exact fun h => h rfl ) ?_ )
  refine r_call rfl rfl rfl (fun W hW => chk_bad ▸ check_calls 2 (some ⟨b3, 0, none⟩) 2 bad W (by decide) (r3 (by repeat (first | exact List.Mem.head _ | apply List.Mem.tail)) W hW)) ?_
  have hcy := cy.ne
  have hcy2 : cy.us.length ≠ 0 := fun h => hcy (List.eq_nil_of_length_eq_zero h)
  repeat (first | refine l_val rfl rfl (by first | exact pureEval_ok rfl ) ?_ | refine l_nil ?_ | refine c_region ?_ | refine c_seq ?_ | refine x_then ?_ | refine r_buildSlice rfl rfl rfl rfl rfl rfl (by rfl) (fun _ => ?_) | refine c_dec_f rfl (by first | omega ) ?_ | refine c_skip ?_ )
  rename_i b11
  have hsame : decide ([L1 0, L1 1] = [(0 : Int), 3]) = true := by rw [hL10, hL11]; rfl
  refine r_call rfl rfl rfl (fun W hW => hsame ▸ Same_calls (some ⟨b6, 0, none⟩) (some ⟨b11, 0, none⟩) 2 2 [L1 0, L1 1] [0, 3] W (by simp) (by simp) (hW.rows (b := b6) (cs := ivec (2 : Int).toNat L1) (by repeat (first | exact List.Mem.head _ | apply List.Mem.tail)) (rest := []) rfl (in_len _)) (hW.rows (b := b11) (by repeat (first | exact List.Mem.head _ | apply List.Mem.tail)) (rest := []) rfl (in_len _))) ?_
  repeat (first | refine l_val rfl rfl (by first | exact pureEval_ok rfl ) ?_ | refine l_nil ?_ | refine x_then ?_ | refine c_ret ?_ )
  exact x_ret rfl rfl (by repeat (first | exact Res.nil | (apply Res.tmp; rfl) | (apply Res.cell; rfl; exact (by repeat (first | exact List.Mem.head _ | apply List.Mem.tail)); rfl; rfl))) rfl (fun W hW => ⟨rfl, hW.below⟩)
end R22
end Go.Proofs
