/- Collating: the specification's check of witnesses. -/
import Derived.Test.YtobiefdkpiognaaClL
set_option linter.unusedSectionVars false
set_option linter.unusedVariables false
set_option linter.unusedSimpArgs false
namespace Go.Proofs
open Go.RowKit Go.Kin Go.Kin.Cl
namespace R41
theorem allW_pos : ∀ {ws : List Wi} {last : Int} {k : Nat}, 0 ≤ last → allW last ws = true → ∀ x, ws[k]? = some x → 1 ≤ x.no
  | [], _, _, _, _, x, h => by simp at h
  | y :: l, last, 0, h0, h, x, hx => by
    rw [allW, Bool.and_eq_true] at h
    unfold witB at h
    rw [Bool.and_eq_true, decide_eq_true_eq] at h
    simp at hx; subst hx; omega
  | y :: l, last, k + 1, h0, h, x, hx => by
    rw [allW, Bool.and_eq_true] at h
    have h1 := h.1
    unfold witB at h1
    rw [Bool.and_eq_true, decide_eq_true_eq] at h1
    exact allW_pos (k := k) (by omega) h.2 x (by simpa using hx)
set_option maxRecDepth 100000 in
set_option maxHeartbeats 40000000 in
theorem rCheck_calls (A : Option Addr) (cap : Nat) (ws : List Wi) (w : World) (hA : Kin.At w A 3 (ws.map wiE)) (hx : ∀ x ∈ ws, WiOK w x) (hl : ws.length ≤ 9223372036854775807) :
    Calls Try.prog 16 ⟨[.slice A ws.length cap]⟩ w fun e w' => e = .returned (.int .i64 (chkW ws)) ∧ Below w.heap.size w w' := by
  refine fun_enter Try.func16 rfl Try.ntmps16 rfl rfl (satW_nil w) ?_
  by_cases hn : 24 < ws.length
  · have hv := chkW_n hn
    repeat (first | refine l_val rfl rfl (by first | exact pureEval_ok rfl ) ?_ | refine l_nil ?_ | refine c_region ?_ | refine c_seq ?_ | refine x_then ?_ | refine c_dec_t rfl (by first | omega ) ?_ | refine c_ret ?_ | refine x_then_ret ?_ )
    exact x_ret rfl rfl (by repeat (first | exact Res.nil | (apply Res.tmp; rfl) | (apply Res.cell; rfl; exact (by repeat (first | exact List.Mem.head _ | apply List.Mem.tail)); rfl; rfl))) rfl (fun W hW => ⟨by rw [hv], hW.below⟩)
  have hn : ws.length ≤ 24 := by omega
  repeat (first | refine l_val rfl rfl (by first | exact pureEval_ok rfl ) ?_ | refine l_nil ?_ | refine c_region ?_ | refine c_seq ?_ | refine x_then ?_ | refine c_dec_f rfl (by first | omega ) ?_ | refine c_block ?_ | refine c_skip ?_ )
  refine c_loop (ι := Nat) (fun k => k ≤ ws.length ∧ (Unit → ∀ x ∈ ws.take k, x.rs.length ≤ 64)) (fun k => [(0, .slice A ws.length cap), (3, .int .i64 k)]) (fun _ => []) (fun k => ws.length - k) 0 ⟨by omega, fun _ x hx => by cases hx⟩ (by repeat (first | exact EnvSub.nil | refine EnvSub.cons rfl (by first | rfl | (congr 1; done) | (exact congrArg (Value.int _) (by omega)) | (simp; done)) ?_)) (by repeat (first | exact MSub.nil | refine MSub.keep (by first | rfl | assumption) ?_ | refine MSub.drop ?_ | exact MSub.refl _)) ?_
  rintro k ⟨hk, hM⟩
  by_cases hlt : k < ws.length
  · obtain ⟨x, hwx⟩ : ∃ x, ws[k]? = some x := ⟨_, List.getElem?_eq_getElem hlt⟩
    have hmem := List.mem_of_getElem? hwx
    have hxl := (hx x hmem).len
    obtain ⟨b1, o1, rfl, e1⟩ := ext_at hA hwx
    have g1 := ext_of e1
    by_cases h64 : 64 < x.rs.length
    · have hv := chkW_l hmem h64
      repeat (first | refine l_val rfl rfl (by first | exact pureEval_ok rfl | exact v_load_ext rfl (by assumption) rfl (by rfl) | exact v_index rfl rfl rfl rfl (by omega) (by omega) (by with_reducible first | exact idx4 _ _ _  ) ) ?_ | refine l_nil ?_ | refine c_region ?_ | refine c_seq ?_ | refine x_then ?_ | refine c_dec_t rfl (by first | omega ) ?_ | refine c_block ?_ | refine c_skip ?_ | refine c_ret ?_ | refine x_then_ret ?_ | refine x_block_ret ?_ )
      exact x_ret rfl rfl (by repeat (first | exact Res.nil | (apply Res.tmp; rfl) | (apply Res.cell; rfl; exact (by repeat (first | exact List.Mem.head _ | apply List.Mem.tail)); rfl; rfl))) rfl (fun W hW => ⟨by rw [hv], hW.below⟩)
    · have hM' : Unit → ∀ y ∈ ws.take (k + 1), y.rs.length ≤ 64 := fun _ y hy => by
        rw [List.take_add_one, hwx, List.mem_append] at hy
        rcases hy with hy | hy
        · exact hM () y hy
        · cases List.mem_singleton.1 hy; omega
      clear hM
      repeat (first | refine l_val rfl rfl (by first | exact v_add rfl rfl (by omega) (by omega) | exact pureEval_ok rfl | exact v_load_ext rfl (by assumption) rfl (by rfl) | exact v_index rfl rfl rfl rfl (by omega) (by omega) (by with_reducible first | exact idx4 _ _ _  ) ) ?_ | refine l_nil ?_ | refine c_region ?_ | refine c_seq ?_ | refine x_then ?_ | refine c_dec_t rfl (by first | omega ) ?_ | refine c_dec_f rfl (by first | omega ) ?_ | refine c_block ?_ | refine c_skip ?_ | refine x_block ?_ )
      exact x_back (k + 1) ⟨hlt, hM'⟩ (by omega) (by repeat (first | exact EnvSub.nil | refine EnvSub.cons rfl (by first | rfl | (congr 1; done) | (exact congrArg (Value.int _) (by omega)) | (simp; done)) ?_)) (by repeat (first | exact MSub.nil | refine MSub.keep (by first | rfl | assumption) ?_ | refine MSub.drop ?_ | exact MSub.refl _))
  have hkl : k = ws.length := by omega
  subst hkl
  have h64 : ∀ x ∈ ws, x.rs.length ≤ 64 := by have := hM (); rwa [List.take_length] at this
  have hv := chkW_in hn h64
  clear hM hlt hk
  repeat (first | refine l_val rfl rfl (by first | exact pureEval_ok rfl ) ?_ | refine l_nil ?_ | refine c_region ?_ | refine c_seq ?_ | refine x_then ?_ | refine c_dec_f rfl (by first | omega ) ?_ | refine c_block ?_ | refine c_exit ?_ | refine x_then_exit ?_ | refine x_block_same ?_ )
  refine c_loop (ι := Nat) (fun k => k ≤ ws.length ∧ (Unit → allW 0 ws = allW (lastN ws k) (ws.drop k)) ∧ (Unit → 1 ≤ k → 1 ≤ lastN ws k)) (fun k => [(0, .slice A ws.length cap), (4, .int .i64 k)]) (fun _ => []) (fun k => ws.length - k) 0 ⟨by omega, fun _ => rfl, fun _ h => absurd h (by decide)⟩ (by repeat (first | exact EnvSub.nil | refine EnvSub.cons rfl (by first | rfl | (congr 1; done) | (exact congrArg (Value.int _) (by omega)) | (simp; done)) ?_)) (by repeat (first | exact MSub.nil | refine MSub.keep (by first | rfl | assumption) ?_ | refine MSub.drop ?_ | exact MSub.refl _)) ?_
  rintro k ⟨hk, hM, hP⟩
  by_cases hlt : k < ws.length
  · obtain ⟨x, hwx⟩ : ∃ x, ws[k]? = some x := ⟨_, List.getElem?_eq_getElem hlt⟩
    have hmem := List.mem_of_getElem? hwx
    have hok := hx x hmem
    have hl64 := h64 x hmem
    obtain ⟨b1, o1, rfl, e1⟩ := ext_at hA hwx
    have g1 := ext_of e1
    have hd := allW_drop hwx
    have hls := lastN_succ hwx
    by_cases hq : lastN ws k < x.no ∧ x.no ≤ 1048576 ∧ 0 ≤ x.year ∧ x.year ≤ 3000
    rotate_left
    · have hv2 : chkW ws = 410 := by rw [hv, if_neg]; rw [hM (), hd, witB_no hq]; simp
      cases k with
      | zero =>
        have hq' : ¬ (1 ≤ x.no ∧ x.no ≤ 1048576) ∨ ¬ (0 ≤ x.year ∧ x.year ≤ 3000) := by
          simp only [lastN] at hq; omega
        clear hM hv hd hP hq
        by_cases c1 : 1 ≤ x.no ∧ x.no ≤ 1048576
        · have c2 : ¬ (0 ≤ x.year ∧ x.year ≤ 3000) := by omega
          clear hq'
          repeat (first | refine l_val rfl rfl (by first | exact pureEval_ok rfl ) ?_ | refine l_nil ?_ | refine c_region ?_ | refine c_seq ?_ | refine x_then ?_ | refine c_dec_t rfl (by first | omega ) ?_ | refine c_block ?_ | refine c_skip ?_ | refine c_ret ?_ | refine x_then_ret ?_ | refine x_block_ret ?_ | refine c_reads rfl (by decide +kernel) ?_ | refine q_val rfl rfl (by first | exact pureEval_ok rfl | exact v_load_ext0 rfl (by assumption) rfl (by rfl) | exact v_load_ext rfl (by assumption) rfl (by rfl) | exact v_index rfl rfl rfl rfl (by omega) (by omega) (by with_reducible first | exact idx4 _ _ _  ) ) ?_ | refine q_nil ?_ | refine q_skip rfl rfl ?_ | refine c_not_t rfl (by first | omega ) ?_ | refine q_not_f rfl rfl rfl rfl (by first | omega ) ?_ | (refine q_call rfl rfl rfl (fun W hW => within_calls _ _ _ W) ?_) )
          exact x_ret rfl rfl (by repeat (first | exact Res.nil | (apply Res.tmp; rfl) | (apply Res.cell; rfl; exact (by repeat (first | exact List.Mem.head _ | apply List.Mem.tail)); rfl; rfl))) rfl (fun W hW => ⟨by rw [hv2], hW.below⟩)
        · clear hq'
          repeat (first | refine l_val rfl rfl (by first | exact pureEval_ok rfl ) ?_ | refine l_nil ?_ | refine c_region ?_ | refine c_seq ?_ | refine x_then ?_ | refine c_true rfl ?_ | refine c_dec_t rfl (by first | omega ) ?_ | refine c_block ?_ | refine c_skip ?_ | refine c_ret ?_ | refine x_then_ret ?_ | refine x_block_ret ?_ | refine c_reads rfl (by decide +kernel) ?_ | refine q_val rfl rfl (by first | exact pureEval_ok rfl | exact v_load_ext0 rfl (by assumption) rfl (by rfl) | exact v_index rfl rfl rfl rfl (by omega) (by omega) (by with_reducible first | exact idx4 _ _ _  ) ) ?_ | refine q_nil ?_ | refine q_skip rfl rfl ?_ | refine q_not_t rfl rfl rfl rfl (by first | omega ) ?_ | (refine q_call rfl rfl rfl (fun W hW => within_calls _ _ _ W) ?_) )
          exact x_ret rfl rfl (by repeat (first | exact Res.nil | (apply Res.tmp; rfl) | (apply Res.cell; rfl; exact (by repeat (first | exact List.Mem.head _ | apply List.Mem.tail)); rfl; rfl))) rfl (fun W hW => ⟨by rw [hv2], hW.below⟩)
      | succ k =>
        obtain ⟨y, hwy⟩ : ∃ y, ws[k]? = some y := ⟨_, List.getElem?_eq_getElem (by omega)⟩
        obtain ⟨b2, o2, hA2, e2⟩ := ext_at hA hwy
        cases hA2
        have g2 := ext_of e2
        rw [show k = ((((k + 1 : Nat) : Int)) - 1).toNat by omega] at g2
        rw [lastN_succ hwy] at hq
        have hp := hP () (by omega)
        rw [lastN_succ hwy] at hp
        clear hM hv hd hP
        by_cases c1 : 1 ≤ x.no ∧ x.no ≤ 1048576
        · by_cases c3 : x.no ≤ y.no
          · clear hq
            repeat (first | refine l_val rfl rfl (by first | exact pureEval_ok rfl ) ?_ | refine l_nil ?_ | refine c_region ?_ | refine c_seq ?_ | refine x_then ?_ | refine c_true rfl ?_ | refine c_dec_t rfl (by first | omega ) ?_ | refine c_block ?_ | refine c_skip ?_ | refine c_ret ?_ | refine x_then_ret ?_ | refine x_block_ret ?_ | refine c_reads rfl (by decide +kernel) ?_ | refine q_val rfl rfl (by first | exact v_sub rfl rfl (by omega) (by omega) | exact pureEval_ok rfl | exact v_load_ext0 rfl (by assumption) rfl (by rfl) | exact v_index rfl rfl rfl rfl (by omega) (by omega) (by with_reducible first | exact idx4 _ _ _  | exact idx8 _ _ _  ) ) ?_ | refine q_nil ?_ | refine q_skip rfl rfl ?_ | refine q_dec_t rfl rfl rfl rfl (by first | omega ) ?_ | refine q_not_f rfl rfl rfl rfl (by first | omega ) ?_ | (refine q_call rfl rfl rfl (fun W hW => within_calls _ _ _ W) ?_) )
            exact x_ret rfl rfl (by repeat (first | exact Res.nil | (apply Res.tmp; rfl) | (apply Res.cell; rfl; exact (by repeat (first | exact List.Mem.head _ | apply List.Mem.tail)); rfl; rfl))) rfl (fun W hW => ⟨by rw [hv2], hW.below⟩)
          · have c2 : ¬ (0 ≤ x.year ∧ x.year ≤ 3000) := by omega
            clear hq
            repeat (first | refine l_val rfl rfl (by first | exact pureEval_ok rfl ) ?_ | refine l_nil ?_ | refine c_region ?_ | refine c_seq ?_ | refine x_then ?_ | refine c_dec_t rfl (by first | omega ) ?_ | refine c_block ?_ | refine c_skip ?_ | refine c_ret ?_ | refine x_then_ret ?_ | refine x_block_ret ?_ | refine c_reads rfl (by decide +kernel) ?_ | refine q_val rfl rfl (by first | exact v_sub rfl rfl (by omega) (by omega) | exact pureEval_ok rfl | exact v_load_ext0 rfl (by assumption) rfl (by rfl) | exact v_load_ext rfl (by assumption) rfl (by rfl) | exact v_index rfl rfl rfl rfl (by omega) (by omega) (by with_reducible first | exact idx4 _ _ _  | exact idx8 _ _ _  ) ) ?_ | refine q_nil ?_ | refine q_dec_t rfl rfl rfl rfl (by first | omega ) ?_ | refine q_dec_f rfl rfl rfl rfl (by first | omega ) ?_ | refine c_not_t rfl (by first | omega ) ?_ | refine q_not_f rfl rfl rfl rfl (by first | omega ) ?_ | (refine q_call rfl rfl rfl (fun W hW => within_calls _ _ _ W) ?_) )
            exact x_ret rfl rfl (by repeat (first | exact Res.nil | (apply Res.tmp; rfl) | (apply Res.cell; rfl; exact (by repeat (first | exact List.Mem.head _ | apply List.Mem.tail)); rfl; rfl))) rfl (fun W hW => ⟨by rw [hv2], hW.below⟩)
        · clear hq
          repeat (first | refine l_val rfl rfl (by first | exact pureEval_ok rfl ) ?_ | refine l_nil ?_ | refine c_region ?_ | refine c_seq ?_ | refine x_then ?_ | refine c_true rfl ?_ | refine c_dec_t rfl (by first | omega ) ?_ | refine c_block ?_ | refine c_skip ?_ | refine c_ret ?_ | refine x_then_ret ?_ | refine x_block_ret ?_ | refine c_reads rfl (by decide +kernel) ?_ | refine q_val rfl rfl (by first | exact pureEval_ok rfl | exact v_load_ext0 rfl (by assumption) rfl (by rfl) | exact v_index rfl rfl rfl rfl (by omega) (by omega) (by with_reducible first | exact idx4 _ _ _  ) ) ?_ | refine q_nil ?_ | refine q_skip rfl rfl ?_ | refine q_not_t rfl rfl rfl rfl (by first | omega ) ?_ | (refine q_call rfl rfl rfl (fun W hW => within_calls _ _ _ W) ?_) )
          exact x_ret rfl rfl (by repeat (first | exact Res.nil | (apply Res.tmp; rfl) | (apply Res.cell; rfl; exact (by repeat (first | exact List.Mem.head _ | apply List.Mem.tail)); rfl; rfl))) rfl (fun W hW => ⟨by rw [hv2], hW.below⟩)
    obtain ⟨q1, q2, q3, q4⟩ := hq
    rw [witB_yes ⟨q1, q2, q3, q4⟩] at hd
    have hno1 : 1 ≤ x.no := by
      cases k with
      | zero => simp only [lastN] at q1; omega
      | succ k => have := hP () (by omega); omega
    have hP' : Unit → 1 ≤ k + 1 → 1 ≤ lastN ws (k + 1) := fun _ _ => by rw [hls]; exact hno1
    clear hP
    cases k with
    | zero =>
      repeat (first | refine l_val rfl rfl (by first | exact pureEval_ok rfl ) ?_ | refine l_nil ?_ | refine c_region ?_ | refine c_seq ?_ | refine x_then ?_ | refine c_dec_t rfl (by first | omega ) ?_ | refine c_block ?_ | refine c_skip ?_ | refine c_reads rfl (by decide +kernel) ?_ | refine q_val rfl rfl (by first | exact pureEval_ok rfl | exact v_load_ext0 rfl (by assumption) rfl (by rfl) | exact v_load_ext rfl (by assumption) rfl (by rfl) | exact v_index rfl rfl rfl rfl (by omega) (by omega) (by with_reducible first | exact idx4 _ _ _  ) ) ?_ | refine q_nil ?_ | refine q_skip rfl rfl ?_ | refine q_not_f rfl rfl rfl rfl (by first | omega ) ?_ | refine c_not_f rfl (by first | omega ) ?_ | (refine q_call rfl rfl rfl (fun W hW => within_calls _ _ _ W) ?_) )
      refine c_loop (ι := Nat) (fun j => j ≤ x.rs.length ∧ (Unit → (x.rs.take j).all readB = true)) (fun j => [(0, .slice (some ⟨b1, o1, none⟩) ws.length cap), (4, .int .i64 ((0 : Nat) : Int)), (5, .int .i64 j)]) (fun _ => []) (fun j => x.rs.length - j) 0 ⟨by omega, fun _ => rfl⟩ (by repeat (first | exact EnvSub.nil | refine EnvSub.cons rfl (by first | rfl | (congr 1; done) | (exact congrArg (Value.int _) (by omega)) | (simp; done)) ?_)) (by repeat (first | exact MSub.nil | refine MSub.keep (by first | rfl | assumption) ?_ | refine MSub.drop ?_ | exact MSub.refl _)) ?_
      rintro j ⟨hj, hR⟩
      by_cases hjt : j < x.rs.length
      · obtain ⟨r, hr⟩ : ∃ r, x.rs[j]? = some r := ⟨_, List.getElem?_eq_getElem hjt⟩
        have hrm := List.mem_of_getElem? hr
        obtain ⟨b3, o3, hA3, e3⟩ := ext_at hok.at' hr
        have g3 := ext_of e3
        rw [hA3] at g1
        cases hrb : readB r with
        | false =>
          have hv2 : chkW ws = 410 := by rw [hv, if_neg]; rw [hM (), hd, show x.rs.all readB = false by rw [List.all_eq_false]; exact ⟨r, hrm, by rw [hrb]; decide⟩]; simp
          clear hM hR hv hd
          repeat (first | refine l_val rfl rfl (by first | exact pureEval_ok rfl | exact v_load_ext0 rfl (by assumption) rfl (by rfl) | exact v_load_ext rfl (by assumption) rfl (by rfl) | exact v_index rfl rfl rfl rfl (by omega) (by omega) (by with_reducible first | exact idx4 _ _ _  ) ) ?_ | refine l_nil ?_ | refine c_region ?_ | refine c_seq ?_ | refine x_then ?_ | refine c_dec_t rfl (by first | omega ) ?_ | refine c_block ?_ | refine c_skip ?_ | (refine r_call rfl rfl rfl (fun W hW => reading_calls r W) ?_) )
          rw [hrb]
          repeat (first | refine l_val rfl rfl (by first | exact pureEval_ok rfl ) ?_ | refine l_nil ?_ | refine c_region ?_ | refine c_seq ?_ | refine x_then ?_ | refine c_true rfl ?_ | refine c_ret ?_ | refine x_then_ret ?_ | refine x_block_ret ?_ )
          exact x_ret rfl rfl (by repeat (first | exact Res.nil | (apply Res.tmp; rfl) | (apply Res.cell; rfl; exact (by repeat (first | exact List.Mem.head _ | apply List.Mem.tail)); rfl; rfl))) rfl (fun W hW => ⟨by rw [hv2], hW.below⟩)
        | true =>
          have hR' : Unit → (x.rs.take (j + 1)).all readB = true := fun _ => by rw [List.take_add_one, hr, List.all_append, hR ()]; simp [hrb]
          clear hM hR hv hd
          repeat (first | refine l_val rfl rfl (by first | exact pureEval_ok rfl | exact v_load_ext0 rfl (by assumption) rfl (by rfl) | exact v_load_ext rfl (by assumption) rfl (by rfl) | exact v_index rfl rfl rfl rfl (by omega) (by omega) (by with_reducible first | exact idx4 _ _ _  ) ) ?_ | refine l_nil ?_ | refine c_region ?_ | refine c_seq ?_ | refine x_then ?_ | refine c_dec_t rfl (by first | omega ) ?_ | refine c_block ?_ | refine c_skip ?_ | (refine r_call rfl rfl rfl (fun W hW => reading_calls r W) ?_) )
          rw [hrb]
          repeat (first | refine l_val rfl rfl (by first | exact v_add rfl rfl (by omega) (by omega) | exact pureEval_ok rfl ) ?_ | refine l_nil ?_ | refine c_region ?_ | refine x_then ?_ | refine c_false rfl ?_ | refine c_skip ?_ | refine x_block ?_ )
          exact x_back (j + 1) ⟨hjt, hR'⟩ (by omega) (by repeat (first | exact EnvSub.nil | refine EnvSub.cons rfl (by first | rfl | (congr 1; done) | (exact congrArg (Value.int _) (by omega)) | (simp; done)) ?_)) (by repeat (first | exact MSub.nil | refine MSub.keep (by first | rfl | assumption) ?_ | refine MSub.drop ?_ | exact MSub.refl _))
      · have hjl : j = x.rs.length := by omega
        have hall := hR ()
        rw [hjl, List.take_length] at hall
        rw [hall, Bool.true_and] at hd
        have hM' : Unit → allW 0 ws = allW (lastN ws (0 + 1)) (ws.drop (0 + 1)) := fun _ => (hM ()).trans hd
        clear hM hR hd hall hv
        repeat (first | refine l_val rfl rfl (by first | exact v_add rfl rfl (by omega) (by omega) | exact pureEval_ok rfl | exact v_load_ext rfl (by assumption) rfl (by rfl) | exact v_index rfl rfl rfl rfl (by omega) (by omega) (by with_reducible first | exact idx4 _ _ _  ) ) ?_ | refine l_nil ?_ | refine c_region ?_ | refine c_seq ?_ | refine x_then ?_ | refine c_dec_f rfl (by first | omega ) ?_ | refine c_exit ?_ | refine x_then_exit ?_ | refine x_block ?_ | refine x_block_same ?_ )
        exact x_back (0 + 1) ⟨hlt, hM', hP'⟩ (by omega) (by repeat (first | exact EnvSub.nil | refine EnvSub.cons rfl (by first | rfl | (congr 1; done) | (exact congrArg (Value.int _) (by omega)) | (simp; done)) ?_)) (by repeat (first | exact MSub.nil | refine MSub.keep (by first | rfl | assumption) ?_ | refine MSub.drop ?_ | exact MSub.refl _))
    | succ k =>
      obtain ⟨y, hwy⟩ : ∃ y, ws[k]? = some y := ⟨_, List.getElem?_eq_getElem (by omega)⟩
      obtain ⟨b2, o2, hA2, e2⟩ := ext_at hA hwy
      cases hA2
      have g2 := ext_of e2
      rw [show k = ((((k + 1 : Nat) : Int)) - 1).toNat by omega] at g2
      rw [lastN_succ hwy] at q1
      repeat (first | refine l_val rfl rfl (by first | exact pureEval_ok rfl ) ?_ | refine l_nil ?_ | refine c_region ?_ | refine c_seq ?_ | refine x_then ?_ | refine c_dec_t rfl (by first | omega ) ?_ | refine c_block ?_ | refine c_skip ?_ | refine c_reads rfl (by decide +kernel) ?_ | refine q_val rfl rfl (by first | exact v_sub rfl rfl (by omega) (by omega) | exact pureEval_ok rfl | exact v_load_ext0 rfl (by assumption) rfl (by rfl) | exact v_load_ext rfl (by assumption) rfl (by rfl) | exact v_index rfl rfl rfl rfl (by omega) (by omega) (by with_reducible first | exact idx4 _ _ _  | exact idx8 _ _ _  ) ) ?_ | refine q_nil ?_ | refine q_dec_t rfl rfl rfl rfl (by first | omega ) ?_ | refine q_dec_f rfl rfl rfl rfl (by first | omega ) ?_ | refine q_not_f rfl rfl rfl rfl (by first | omega ) ?_ | refine c_not_f rfl (by first | omega ) ?_ | (refine q_call rfl rfl rfl (fun W hW => within_calls _ _ _ W) ?_) )
      refine c_loop (ι := Nat) (fun j => j ≤ x.rs.length ∧ (Unit → (x.rs.take j).all readB = true)) (fun j => [(0, .slice (some ⟨b1, o1, none⟩) ws.length cap), (4, .int .i64 ((k + 1 : Nat) : Int)), (5, .int .i64 j)]) (fun _ => []) (fun j => x.rs.length - j) 0 ⟨by omega, fun _ => rfl⟩ (by repeat (first | exact EnvSub.nil | refine EnvSub.cons rfl (by first | rfl | (congr 1; done) | (exact congrArg (Value.int _) (by omega)) | (simp; done)) ?_)) (by repeat (first | exact MSub.nil | refine MSub.keep (by first | rfl | assumption) ?_ | refine MSub.drop ?_ | exact MSub.refl _)) ?_
      rintro j ⟨hj, hR⟩
      by_cases hjt : j < x.rs.length
      · obtain ⟨r, hr⟩ : ∃ r, x.rs[j]? = some r := ⟨_, List.getElem?_eq_getElem hjt⟩
        have hrm := List.mem_of_getElem? hr
        obtain ⟨b3, o3, hA3, e3⟩ := ext_at hok.at' hr
        have g3 := ext_of e3
        rw [hA3] at g1
        cases hrb : readB r with
        | false =>
          have hv2 : chkW ws = 410 := by rw [hv, if_neg]; rw [hM (), hd, show x.rs.all readB = false by rw [List.all_eq_false]; exact ⟨r, hrm, by rw [hrb]; decide⟩]; simp
          clear hM hR hv hd
          repeat (first | refine l_val rfl rfl (by first | exact pureEval_ok rfl | exact v_load_ext0 rfl (by assumption) rfl (by rfl) | exact v_load_ext rfl (by assumption) rfl (by rfl) | exact v_index rfl rfl rfl rfl (by omega) (by omega) (by with_reducible first | exact idx4 _ _ _  ) ) ?_ | refine l_nil ?_ | refine c_region ?_ | refine c_seq ?_ | refine x_then ?_ | refine c_dec_t rfl (by first | omega ) ?_ | refine c_block ?_ | refine c_skip ?_ | (refine r_call rfl rfl rfl (fun W hW => reading_calls r W) ?_) )
          rw [hrb]
          repeat (first | refine l_val rfl rfl (by first | exact pureEval_ok rfl ) ?_ | refine l_nil ?_ | refine c_region ?_ | refine c_seq ?_ | refine x_then ?_ | refine c_true rfl ?_ | refine c_ret ?_ | refine x_then_ret ?_ | refine x_block_ret ?_ )
          exact x_ret rfl rfl (by repeat (first | exact Res.nil | (apply Res.tmp; rfl) | (apply Res.cell; rfl; exact (by repeat (first | exact List.Mem.head _ | apply List.Mem.tail)); rfl; rfl))) rfl (fun W hW => ⟨by rw [hv2], hW.below⟩)
        | true =>
          have hR' : Unit → (x.rs.take (j + 1)).all readB = true := fun _ => by rw [List.take_add_one, hr, List.all_append, hR ()]; simp [hrb]
          clear hM hR hv hd
          repeat (first | refine l_val rfl rfl (by first | exact pureEval_ok rfl | exact v_load_ext0 rfl (by assumption) rfl (by rfl) | exact v_load_ext rfl (by assumption) rfl (by rfl) | exact v_index rfl rfl rfl rfl (by omega) (by omega) (by with_reducible first | exact idx4 _ _ _  ) ) ?_ | refine l_nil ?_ | refine c_region ?_ | refine c_seq ?_ | refine x_then ?_ | refine c_dec_t rfl (by first | omega ) ?_ | refine c_block ?_ | refine c_skip ?_ | (refine r_call rfl rfl rfl (fun W hW => reading_calls r W) ?_) )
          rw [hrb]
          repeat (first | refine l_val rfl rfl (by first | exact v_add rfl rfl (by omega) (by omega) | exact pureEval_ok rfl ) ?_ | refine l_nil ?_ | refine c_region ?_ | refine x_then ?_ | refine c_false rfl ?_ | refine c_skip ?_ | refine x_block ?_ )
          exact x_back (j + 1) ⟨hjt, hR'⟩ (by omega) (by repeat (first | exact EnvSub.nil | refine EnvSub.cons rfl (by first | rfl | (congr 1; done) | (exact congrArg (Value.int _) (by omega)) | (simp; done)) ?_)) (by repeat (first | exact MSub.nil | refine MSub.keep (by first | rfl | assumption) ?_ | refine MSub.drop ?_ | exact MSub.refl _))
      · have hjl : j = x.rs.length := by omega
        have hall := hR ()
        rw [hjl, List.take_length] at hall
        rw [hall, Bool.true_and] at hd
        have hM' : Unit → allW 0 ws = allW (lastN ws (k + 1 + 1)) (ws.drop (k + 1 + 1)) := fun _ => (hM ()).trans hd
        clear hM hR hd hall hv
        repeat (first | refine l_val rfl rfl (by first | exact v_add rfl rfl (by omega) (by omega) | exact pureEval_ok rfl | exact v_load_ext rfl (by assumption) rfl (by rfl) | exact v_index rfl rfl rfl rfl (by omega) (by omega) (by with_reducible first | exact idx4 _ _ _  ) ) ?_ | refine l_nil ?_ | refine c_region ?_ | refine c_seq ?_ | refine x_then ?_ | refine c_dec_f rfl (by first | omega ) ?_ | refine c_exit ?_ | refine x_then_exit ?_ | refine x_block ?_ | refine x_block_same ?_ )
        exact x_back (k + 1 + 1) ⟨hlt, hM', hP'⟩ (by omega) (by repeat (first | exact EnvSub.nil | refine EnvSub.cons rfl (by first | rfl | (congr 1; done) | (exact congrArg (Value.int _) (by omega)) | (simp; done)) ?_)) (by repeat (first | exact MSub.nil | refine MSub.keep (by first | rfl | assumption) ?_ | refine MSub.drop ?_ | exact MSub.refl _))
  · have hkl : k = ws.length := by omega
    subst hkl
    have hyes := hM ()
    rw [List.drop_length, allW] at hyes
    have hv2 : chkW ws = 0 := by rw [hv, if_pos hyes]
    clear hM hv hyes
    repeat (first | refine l_val rfl rfl (by first | exact pureEval_ok rfl ) ?_ | refine l_nil ?_ | refine c_region ?_ | refine c_seq ?_ | refine x_then ?_ | refine c_dec_f rfl (by first | omega ) ?_ | refine c_ret ?_ | refine c_exit ?_ | refine x_then_exit ?_ | refine x_block_same ?_ )
    exact x_ret rfl rfl (by repeat (first | exact Res.nil | (apply Res.tmp; rfl) | (apply Res.cell; rfl; exact (by repeat (first | exact List.Mem.head _ | apply List.Mem.tail)); rfl; rfl))) rfl (fun W hW => ⟨by rw [hv2], hW.below⟩)
end R41
end Go.Proofs
