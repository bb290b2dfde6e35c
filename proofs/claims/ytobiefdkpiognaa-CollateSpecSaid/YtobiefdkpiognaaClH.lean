/- Collating: Pair, in the specification. Printed by gen_rpair.py. -/
import Derived.Test.YtobiefdkpiognaaClE0
import Derived.Test.YtobiefdkpiognaaClF
set_option linter.unusedSectionVars false
set_option linter.unusedVariables false
set_option linter.unusedSimpArgs false
namespace Go.Proofs
open Go.RowKit Go.Kin Go.Kin.Cl
namespace R41
set_option maxRecDepth 100000 in
set_option maxHeartbeats 40000000 in
theorem rPair_calls (a b : List Int) (A B : Option Addr) (ca cb : Nat) (w : World) (hla : a.length ≤ 100000) (hlb : b.length ≤ 100000) (hA : Kin.At w A 1 (a.map inE)) (hB : Kin.At w B 1 (b.map inE)) : Calls Try.prog 27 ⟨[.slice A a.length ca, .slice B b.length cb]⟩ w (PairQ a b w) := by
  refine fun_enter Try.func27 rfl Try.ntmps27 rfl rfl (satW_nil w) ?_
  by_cases h1 : 64 < a.length
  · have hv : prR a b = 2 := if_pos (.inl h1)
    repeat (first | refine l_val rfl rfl (by first | exact pureEval_ok rfl ) ?_ | refine l_nil ?_ | refine c_region ?_ | refine c_seq ?_ | refine x_then ?_ | refine l_skip rfl rfl ?_ | refine c_true rfl ?_ | refine c_ret ?_ | refine x_then_ret ?_ | refine l_dec_t rfl rfl rfl rfl rfl (by first | omega ) ?_ )
    exact x_ret rfl rfl (by repeat (first | exact Res.nil | (apply Res.tmp; rfl) | (apply Res.cell; rfl; exact (by repeat (first | exact List.Mem.head _ | apply List.Mem.tail)); rfl; rfl))) rfl (fun W hW => ⟨hW.below, .inl ⟨by rw [hv]; decide, by rw [hv]⟩⟩)
  by_cases h2 : 64 < b.length
  · have hv : prR a b = 2 := if_pos (.inr h2)
    repeat (first | refine l_val rfl rfl (by first | exact pureEval_ok rfl ) ?_ | refine l_nil ?_ | refine c_region ?_ | refine c_seq ?_ | refine x_then ?_ | refine c_dec_t rfl (by first | omega ) ?_ | refine c_ret ?_ | refine x_then_ret ?_ | refine l_dec_f rfl rfl rfl rfl rfl (by first | omega ) ?_ )
    exact x_ret rfl rfl (by repeat (first | exact Res.nil | (apply Res.tmp; rfl) | (apply Res.cell; rfl; exact (by repeat (first | exact List.Mem.head _ | apply List.Mem.tail)); rfl; rfl))) rfl (fun W hW => ⟨hW.below, .inl ⟨by rw [hv]; decide, by rw [hv]⟩⟩)
  have hbad : Unit → ¬ (a.all isC = true ∧ b.all isC = true) → prR a b = 410 := fun _ h => by unfold prR; rw [if_neg (by omega), if_neg h]
  have hgood : Unit → a.all isC = true ∧ b.all isC = true → prR a b = 0 := fun _ h => by unfold prR; rw [if_neg (by omega), if_pos h]
  repeat (first | refine l_val rfl rfl (by first | exact pureEval_ok rfl ) ?_ | refine l_nil ?_ | refine c_region ?_ | refine c_seq ?_ | refine x_then ?_ | refine c_dec_f rfl (by first | omega ) ?_ | refine c_skip ?_ | refine l_dec_f rfl rfl rfl rfl rfl (by first | omega ) ?_ )
  refine r_call rfl rfl rfl (fun W hW => all_calls A ca a W (by omega) (hA.sat hW)) ?_
  cases ha : a.all isC with
  | false =>
    have hE := hbad () (fun h => by rw [ha] at h; cases h.1)
    repeat (first | refine l_val rfl rfl (by first | exact pureEval_ok rfl ) ?_ | refine l_nil ?_ | refine c_region ?_ | refine c_seq ?_ | refine x_then ?_ | refine l_skip rfl rfl ?_ | refine c_true rfl ?_ | refine c_ret ?_ | refine x_then_ret ?_ )
    exact x_ret rfl rfl (by repeat (first | exact Res.nil | (apply Res.tmp; rfl) | (apply Res.cell; rfl; exact (by repeat (first | exact List.Mem.head _ | apply List.Mem.tail)); rfl; rfl))) rfl (fun W hW => ⟨hW.below, .inl ⟨by rw [hE]; decide, by rw [hE]⟩⟩)
  | true =>
  repeat (first | refine l_val rfl rfl (by first | exact pureEval_ok rfl ) ?_ )
  refine r_call rfl rfl rfl (fun W hW => all_calls B cb b W (by omega) (hB.sat hW)) ?_
  cases hb : b.all isC with
  | false =>
    have hE := hbad () (fun h => by rw [hb] at h; cases h.2)
    repeat (first | refine l_val rfl rfl (by first | exact pureEval_ok rfl ) ?_ | refine l_nil ?_ | refine c_region ?_ | refine c_seq ?_ | refine x_then ?_ | refine c_true rfl ?_ | refine c_ret ?_ | refine x_then_ret ?_ )
    exact x_ret rfl rfl (by repeat (first | exact Res.nil | (apply Res.tmp; rfl) | (apply Res.cell; rfl; exact (by repeat (first | exact List.Mem.head _ | apply List.Mem.tail)); rfl; rfl))) rfl (fun W hW => ⟨hW.below, .inl ⟨by rw [hE]; decide, by rw [hE]⟩⟩)
  | true =>
  have hE := hgood () ⟨ha, hb⟩
  clear hbad hgood
  repeat (first | refine l_val rfl rfl (by first | exact pureEval_ok rfl ) ?_ | refine l_nil ?_ | refine c_region ?_ | refine c_seq ?_ | refine x_then ?_ | refine c_false rfl ?_ | refine c_skip ?_ )
  refine l_callF (ι := Nat) (v := fun bc => .slice (some ⟨bc, 0, none⟩) (a.length + 1) (a.length + 1)) (mem' := []) (fun bc W W' => ∃ bs : Nat → Nat, W.heap.size ≤ bc ∧ (∀ j, j < a.length + 1 → W.heap.size ≤ bs j) ∧ Mat W' (fun k => k < W'.heap.size) bc (a.length + 1) (b.length + 1) bs (fun i k => lf a b i k)) rfl rfl rfl (by repeat (first | exact MSub.nil | refine MSub.keep (by first | rfl | assumption) ?_ | refine MSub.drop ?_ | exact MSub.refl _)) (fun W hW => rest_calls a b A B ca cb W (by omega) (by omega) (hA.sat hW) (hB.sat hW)) (fun bc W0 W1 hW0 hb1 hW1 hR => ?_)
  obtain ⟨bs, hbc, hbs, hMat⟩ := hR
  have hlow : Same (base w) w W1 := hW1.same
  have hmv : ∀ {b o : Nat} {cs : List Value}, Ext W1 (fun k => k < W1.heap.size) b o cs → Ext W1 (allBut W1 (List.map (·.1) ([] : List (Nat × Obj)))) b o cs := fun h => ⟨⟨h.dom, by simp⟩, h.cell⟩
  have hDD : ∀ k, base w k → allBut W1 (List.map (·.1) ([] : List (Nat × Obj))) k := fun k hk => ⟨Nat.lt_of_lt_of_le hk hlow.size, by simp⟩
  have P1 : ∀ i, i < a.length + 1 → Ext W1 (allBut W1 (List.map (·.1) ([] : List (Nat × Obj)))) bc i [.slice (some ⟨bs i, 0, none⟩) (b.length + 1) (b.length + 1)] := fun i hi => by have := hmv (hMat.slice hi); rwa [Nat.zero_add] at this
  have R1 : ∀ i k, i < a.length + 1 → k < b.length + 1 → Ext W1 (allBut W1 (List.map (·.1) ([] : List (Nat × Obj)))) (bs i) k [.int .i64 (lf a b i k)] := fun i k hi hk => by have := hmv (hMat.cell hi hk); rwa [Nat.zero_add] at this
  have eA : ∀ (i : Nat) (x : Int), a[i]? = some x → ∃ b o, A = some ⟨b, o, none⟩ ∧ Ext W1 (allBut W1 (List.map (·.1) ([] : List (Nat × Obj)))) b (o + i) [.int .i64 x] := fun i x hx => pure_at hA hlow hDD hx
  have eB : ∀ (i : Nat) (x : Int), b[i]? = some x → ∃ b o, B = some ⟨b, o, none⟩ ∧ Ext W1 (allBut W1 (List.map (·.1) ([] : List (Nat × Obj)))) b (o + i) [.int .i64 x] := fun i x hx => pure_at hB hlow hDD hx
  have hbel : ∀ {mem : List (Nat × Obj)} {W : World}, SatW W1 (allBut W1 (List.map (·.1) ([] : List (Nat × Obj)))) noJ mem W → Below w.heap.size w W := fun hm => (hlow.trans (hm.same.mono hDD)).below (Nat.le_refl _) fun _ hk => hk
  have hown : ∀ {mem : List (Nat × Obj)} {W : World} {q : Nat × Obj}, SatW W1 (allBut W1 (List.map (·.1) ([] : List (Nat × Obj)))) noJ mem W → q ∈ mem → w.heap.size ≤ q.1 := fun {mem W q} hm hq => by
    have h3 := (hm.own _ hq).1
    have h4 := hlow.size
    by_cases h5 : q.1 < W1.heap.size
    · exact absurd ⟨h5, by simp⟩ h3
    · omega
  have hlen := pairL_len _ 0 0 a b (Nat.le_refl _)
  have hac : ac a b = lf a b 0 0 := rfl
  clear hMat hmv hDD hA hB hW0 hb1 hW1 hbs hbc
  repeat (first | refine l_val rfl rfl (by first | exact pureEval_ok rfl ) ?_ | refine l_nil ?_ | refine c_region ?_ | refine c_seq ?_ | refine x_then ?_ | refine c_block ?_ )
  refine c_loop (ι := LS) (fun s => LS.ok a b s ∧ (Unit → s.l ++ prf a b s.i s.k = pairL a b)) (fun s => [(0, .slice A a.length ca), (1, .slice B b.length cb), (7, .slice (some ⟨bc, 0, none⟩) (a.length + 1) (a.length + 1)), (8, s.sv), (9, .int .i64 s.i), (10, .int .i64 s.k)]) (fun s => s.mem) (fun s => (a.length - s.i) + (b.length - s.k)) .zero ⟨trivial, fun _ => rfl⟩ (by repeat (first | exact EnvSub.nil | refine EnvSub.cons rfl (by first | rfl | (congr 1; done) | (exact congrArg (Value.int _) (by omega)) | (simp; done)) ?_)) (by repeat (first | exact MSub.nil | refine MSub.keep (by first | rfl | assumption) ?_ | refine MSub.drop ?_ | exact MSub.refl _)) ?_
  rintro s ⟨hs, hp⟩
  cases s with
  | zero =>
    have hp : Unit → prf a b 0 0 = pairL a b := hp
    show RunC _ _ _ _ _ [(0, .slice A a.length ca), (1, .slice B b.length cb), (7, .slice (some ⟨bc, 0, none⟩) (a.length + 1) (a.length + 1)), (8, .slice none 0 0), (9, .int .i64 ((0 : Nat) : Int)), (10, .int .i64 ((0 : Nat) : Int))] []
    by_cases hi : 0 < a.length
    · obtain ⟨x, hx⟩ : ∃ x, a[0]? = some x := ⟨_, List.getElem?_eq_getElem hi⟩
      obtain ⟨bA, oA, hAe, gA⟩ := eA 0 x hx
      by_cases hk : 0 < b.length
      · obtain ⟨y, hy⟩ : ∃ y, b[0]? = some y := ⟨_, List.getElem?_eq_getElem hk⟩
        obtain ⟨bB, oB, hBe, gB⟩ := eB 0 y hy
        have p1 := P1 0 (by omega)
        have r1 := R1 0 0 (by omega) (by omega)
        have p2 : Ext W1 (allBut W1 (List.map (·.1) ([] : List (Nat × Obj)))) bc (((0 : Nat) : Int) + 1).toNat [.slice (some ⟨bs (0 + 1), 0, none⟩) (b.length + 1) (b.length + 1)] := by rw [show (((0 : Nat) : Int) + 1).toNat = 0 + 1 by omega]; exact P1 (0 + 1) (by omega)
        have r3 := R1 (0 + 1) 0 (by omega) (by omega)
        have r2 : Ext W1 (allBut W1 (List.map (·.1) ([] : List (Nat × Obj)))) (bs (0 + 1)) (((0 : Nat) : Int) + 1).toNat [.int .i64 (lf a b (0 + 1) (0 + 1))] := by rw [show (((0 : Nat) : Int) + 1).toNat = 0 + 1 by omega]; exact R1 (0 + 1) (0 + 1) (by omega) (by omega)
        have d1 := lf_bd a b 0 0 (by omega) (by omega)
        have d2 := lf_bd a b (0 + 1) (0 + 1) (by omega) (by omega)
        have d3 := lf_bd a b (0 + 1) 0 (by omega) (by omega)
        have d4 := bes_bd x y
        subst hAe hBe
        by_cases c1 : lf a b 0 0 = bes x y + lf a b (0 + 1) (0 + 1)
        · repeat (first | refine l_val rfl rfl (by first | exact v_add rfl rfl (by omega) (by omega) | exact pureEval_ok rfl | exact v_buildA rfl rfl rfl (by rfl) ) ?_ | refine l_nil ?_ | refine c_region ?_ | refine c_seq ?_ | refine x_then ?_ | refine l_skip rfl rfl ?_ | refine r_buildSlice rfl rfl rfl rfl rfl rfl (by rfl) (fun _ => ?_) | refine c_true rfl ?_ | refine c_dec_t rfl (by first | omega ) ?_ | refine c_block ?_ | refine c_skip ?_ | refine l_dec_t rfl rfl rfl rfl rfl (by first | omega ) ?_ | refine c_reads rfl (by decide +kernel) ?_ | refine q_val rfl rfl (by first | exact v_add rfl rfl (by omega) (by omega) | exact pureEval_ok rfl | exact v_load_ext0 rfl (by assumption) rfl (by rfl) | exact v_index rfl rfl rfl rfl (by omega) (by omega) (by with_reducible first | exact idx1 _  | exact idx2 _ _  | exact idx5 _  ) ) ?_ | refine q_nil ?_ | refine q_dec_t rfl rfl rfl rfl (by first | omega ) ?_ | (refine q_call rfl rfl rfl (fun W hW => Beside_calls x y W) ?_) )
          refine r_append_nil (m := 1) (ys := prE (((0 : Nat) : Int) + 1, ((0 : Nat) : Int) + 1)) rfl rfl rfl rfl rfl rfl (news_own (by repeat (first | exact List.Mem.head _ | apply List.Mem.tail))) rfl rfl (by decide) (by decide) (by decide) (fun b7 c7 r7 hg7 => ?_)
          repeat (first | refine l_val rfl rfl (by first | exact pureEval_ok rfl ) ?_ | refine l_nil ?_ | refine x_then ?_ | refine c_exit ?_ | refine x_then_exit ?_ | refine x_block_same ?_ )
          refine x_back (.more (0 + 1) (0 + 1) 1 b7 c7 r7 [(((0 : Nat) : Int) + 1, ((0 : Nat) : Int) + 1)]) ⟨⟨by decide, by omega, by omega, by omega, rfl, hg7⟩, fun _ => by have := hp (); rw [prf_both hx hy c1] at this; exact this⟩ (by simp only [LS.i, LS.k]; omega) (by repeat (first | exact EnvSub.nil | refine EnvSub.cons rfl (by first | rfl | (congr 1; done) | (exact congrArg (Value.int _) (by omega)) | (simp; done)) ?_)) (by repeat (first | exact MSub.nil | refine MSub.keep (by first | rfl | assumption) ?_ | refine MSub.drop ?_ | exact MSub.refl _))
        · by_cases c2 : lf a b 0 0 = 2 + lf a b (0 + 1) 0
          · repeat (first | refine l_val rfl rfl (by first | exact v_add rfl rfl (by omega) (by omega) | exact pureEval_ok rfl | exact v_buildA rfl rfl rfl (by rfl) ) ?_ | refine l_nil ?_ | refine c_region ?_ | refine c_seq ?_ | refine x_then ?_ | refine l_skip rfl rfl ?_ | refine r_buildSlice rfl rfl rfl rfl rfl rfl (by rfl) (fun _ => ?_) | refine c_true rfl ?_ | refine c_dec_t rfl (by first | omega ) ?_ | refine c_dec_f rfl (by first | omega ) ?_ | refine c_block ?_ | refine c_skip ?_ | refine l_dec_t rfl rfl rfl rfl rfl (by first | omega ) ?_ | refine c_reads rfl (by decide +kernel) ?_ | refine q_val rfl rfl (by first | exact v_add rfl rfl (by omega) (by omega) | exact pureEval_ok rfl | exact v_load_ext0 rfl (by assumption) rfl (by rfl) | exact v_index rfl rfl rfl rfl (by omega) (by omega) (by with_reducible first | exact idx1 _  | exact idx2 _ _  | exact idx5 _  ) ) ?_ | refine q_nil ?_ | refine q_dec_t rfl rfl rfl rfl (by first | omega ) ?_ | (refine q_call rfl rfl rfl (fun W hW => Beside_calls x y W) ?_) )
            refine r_append_nil (m := 1) (ys := prE (((0 : Nat) : Int) + 1, 0)) rfl rfl rfl rfl rfl rfl (news_own (by repeat (first | exact List.Mem.head _ | apply List.Mem.tail))) rfl rfl (by decide) (by decide) (by decide) (fun b7 c7 r7 hg7 => ?_)
            repeat (first | refine l_val rfl rfl (by first | exact pureEval_ok rfl ) ?_ | refine l_nil ?_ | refine x_then ?_ | refine c_exit ?_ | refine x_then_exit ?_ | refine x_block_same ?_ )
            refine x_back (.more (0 + 1) 0 1 b7 c7 r7 [(((0 : Nat) : Int) + 1, 0)]) ⟨⟨by decide, by omega, by omega, by omega, rfl, hg7⟩, fun _ => by have := hp (); rw [prf_left hx hy c1 c2] at this; exact this⟩ (by simp only [LS.i, LS.k]; omega) (by repeat (first | exact EnvSub.nil | refine EnvSub.cons rfl (by first | rfl | (congr 1; done) | (exact congrArg (Value.int _) (by omega)) | (simp; done)) ?_)) (by repeat (first | exact MSub.nil | refine MSub.keep (by first | rfl | assumption) ?_ | refine MSub.drop ?_ | exact MSub.refl _))
          · repeat (first | refine l_val rfl rfl (by first | exact v_add rfl rfl (by omega) (by omega) | exact pureEval_ok rfl | exact v_buildA rfl rfl rfl (by rfl) ) ?_ | refine l_nil ?_ | refine c_region ?_ | refine c_seq ?_ | refine x_then ?_ | refine l_skip rfl rfl ?_ | refine r_buildSlice rfl rfl rfl rfl rfl rfl (by rfl) (fun _ => ?_) | refine c_true rfl ?_ | refine c_dec_f rfl (by first | omega ) ?_ | refine c_block ?_ | refine c_skip ?_ | refine l_dec_t rfl rfl rfl rfl rfl (by first | omega ) ?_ | refine c_reads rfl (by decide +kernel) ?_ | refine q_val rfl rfl (by first | exact v_add rfl rfl (by omega) (by omega) | exact pureEval_ok rfl | exact v_load_ext0 rfl (by assumption) rfl (by rfl) | exact v_index rfl rfl rfl rfl (by omega) (by omega) (by with_reducible first | exact idx1 _  | exact idx2 _ _  | exact idx5 _  ) ) ?_ | refine q_nil ?_ | refine q_dec_t rfl rfl rfl rfl (by first | omega ) ?_ | (refine q_call rfl rfl rfl (fun W hW => Beside_calls x y W) ?_) )
            refine r_append_nil (m := 1) (ys := prE (0, ((0 : Nat) : Int) + 1)) rfl rfl rfl rfl rfl rfl (news_own (by repeat (first | exact List.Mem.head _ | apply List.Mem.tail))) rfl rfl (by decide) (by decide) (by decide) (fun b7 c7 r7 hg7 => ?_)
            repeat (first | refine l_val rfl rfl (by first | exact pureEval_ok rfl ) ?_ | refine l_nil ?_ | refine x_block ?_ )
            refine x_back (.more 0 (0 + 1) 1 b7 c7 r7 [(0, ((0 : Nat) : Int) + 1)]) ⟨⟨by decide, by omega, by omega, by omega, rfl, hg7⟩, fun _ => by have := hp (); rw [prf_right hx hy c1 c2] at this; exact this⟩ (by simp only [LS.i, LS.k]; omega) (by repeat (first | exact EnvSub.nil | refine EnvSub.cons rfl (by first | rfl | (congr 1; done) | (exact congrArg (Value.int _) (by omega)) | (simp; done)) ?_)) (by repeat (first | exact MSub.nil | refine MSub.keep (by first | rfl | assumption) ?_ | refine MSub.drop ?_ | exact MSub.refl _))
      · have hk0 : 0 = b.length := by omega
        obtain ⟨c1, c2⟩ := prf_lefts (b := b) hx hk0
        have p1 := P1 0 (by omega)
        have r1 := R1 0 0 (by omega) (by omega)
        have p2 : Ext W1 (allBut W1 (List.map (·.1) ([] : List (Nat × Obj)))) bc (((0 : Nat) : Int) + 1).toNat [.slice (some ⟨bs (0 + 1), 0, none⟩) (b.length + 1) (b.length + 1)] := by rw [show (((0 : Nat) : Int) + 1).toNat = 0 + 1 by omega]; exact P1 (0 + 1) (by omega)
        have r3 := R1 (0 + 1) 0 (by omega) (by omega)
        have d1 := lf_bd a b 0 0 (by omega) (by omega)
        have d3 := lf_bd a b (0 + 1) 0 (by omega) (by omega)
        subst hAe
        repeat (first | refine l_val rfl rfl (by first | exact v_add rfl rfl (by omega) (by omega) | exact pureEval_ok rfl | exact v_buildA rfl rfl rfl (by rfl) ) ?_ | refine l_nil ?_ | refine c_region ?_ | refine c_seq ?_ | refine x_then ?_ | refine l_skip rfl rfl ?_ | refine r_buildSlice rfl rfl rfl rfl rfl rfl (by rfl) (fun _ => ?_) | refine c_true rfl ?_ | refine c_false rfl ?_ | refine c_dec_t rfl (by first | omega ) ?_ | refine c_block ?_ | refine c_skip ?_ | refine l_dec_t rfl rfl rfl rfl rfl (by first | omega ) ?_ | refine c_reads rfl (by decide +kernel) ?_ | refine q_val rfl rfl (by first | exact v_add rfl rfl (by omega) (by omega) | exact pureEval_ok rfl | exact v_load_ext0 rfl (by assumption) rfl (by rfl) | exact v_index rfl rfl rfl rfl (by omega) (by omega) (by with_reducible first | exact idx1 _  | exact idx5 _  ) ) ?_ | refine q_nil ?_ | refine q_skip rfl rfl ?_ | refine q_dec_t rfl rfl rfl rfl (by first | omega ) ?_ | refine q_dec_f rfl rfl rfl rfl (by first | omega ) ?_ )
        refine r_append_nil (m := 1) (ys := prE (((0 : Nat) : Int) + 1, 0)) rfl rfl rfl rfl rfl rfl (news_own (by repeat (first | exact List.Mem.head _ | apply List.Mem.tail))) rfl rfl (by decide) (by decide) (by decide) (fun b7 c7 r7 hg7 => ?_)
        repeat (first | refine l_val rfl rfl (by first | exact pureEval_ok rfl ) ?_ | refine l_nil ?_ | refine x_then ?_ | refine c_exit ?_ | refine x_then_exit ?_ | refine x_block_same ?_ )
        refine x_back (.more (0 + 1) 0 1 b7 c7 r7 [(((0 : Nat) : Int) + 1, 0)]) ⟨⟨by decide, by omega, by omega, by omega, rfl, hg7⟩, fun _ => by have := hp (); rw [c1] at this; exact this⟩ (by simp only [LS.i, LS.k]; omega) (by repeat (first | exact EnvSub.nil | refine EnvSub.cons rfl (by first | rfl | (congr 1; done) | (exact congrArg (Value.int _) (by omega)) | (simp; done)) ?_)) (by repeat (first | exact MSub.nil | refine MSub.keep (by first | rfl | assumption) ?_ | refine MSub.drop ?_ | exact MSub.refl _))
    by_cases hk : 0 < b.length
    · obtain ⟨y, hy⟩ : ∃ y, b[0]? = some y := ⟨_, List.getElem?_eq_getElem hk⟩
      have c1 := prf_rights (a := a) (i := 0) (by omega) hy
      repeat (first | refine l_val rfl rfl (by first | exact v_add rfl rfl (by omega) (by omega) | exact pureEval_ok rfl | exact v_buildA rfl rfl rfl (by rfl) ) ?_ | refine l_nil ?_ | refine c_region ?_ | refine c_seq ?_ | refine x_then ?_ | refine r_buildSlice rfl rfl rfl rfl rfl rfl (by rfl) (fun _ => ?_) | refine c_false rfl ?_ | refine c_dec_t rfl (by first | omega ) ?_ | refine c_block ?_ | refine c_skip ?_ | refine l_dec_f rfl rfl rfl rfl rfl (by first | omega ) ?_ | refine c_reads rfl (by decide +kernel) ?_ | refine q_val rfl rfl (by first | exact pureEval_ok rfl ) ?_ | refine q_nil ?_ | refine q_skip rfl rfl ?_ | refine q_dec_f rfl rfl rfl rfl (by first | omega ) ?_ )
      refine r_append_nil (m := 1) (ys := prE (0, ((0 : Nat) : Int) + 1)) rfl rfl rfl rfl rfl rfl (news_own (by repeat (first | exact List.Mem.head _ | apply List.Mem.tail))) rfl rfl (by decide) (by decide) (by decide) (fun b7 c7 r7 hg7 => ?_)
      repeat (first | refine l_val rfl rfl (by first | exact pureEval_ok rfl ) ?_ | refine l_nil ?_ | refine x_block ?_ )
      refine x_back (.more 0 (0 + 1) 1 b7 c7 r7 [(0, ((0 : Nat) : Int) + 1)]) ⟨⟨by decide, by omega, by omega, by omega, rfl, hg7⟩, fun _ => by have := hp (); rw [c1] at this; exact this⟩ (by simp only [LS.i, LS.k]; omega) (by repeat (first | exact EnvSub.nil | refine EnvSub.cons rfl (by first | rfl | (congr 1; done) | (exact congrArg (Value.int _) (by omega)) | (simp; done)) ?_)) (by repeat (first | exact MSub.nil | refine MSub.keep (by first | rfl | assumption) ?_ | refine MSub.drop ?_ | exact MSub.refl _))
    have c1 := prf_end (a := a) (b := b) (i := 0) (k := 0) (by omega) (by omega)
    have hpl := hp ()
    rw [c1] at hpl
    have p0 : Ext W1 (allBut W1 (List.map (·.1) ([] : List (Nat × Obj)))) bc (0 : Int).toNat [.slice (some ⟨bs 0, 0, none⟩) (b.length + 1) (b.length + 1)] := P1 0 (by omega)
    have r0 : Ext W1 (allBut W1 (List.map (·.1) ([] : List (Nat × Obj)))) (bs 0) (0 : Int).toNat [.int .i64 (lf a b 0 0)] := R1 0 0 (by omega) (by omega)
    repeat (first | refine l_val rfl rfl (by first | exact pureEval_ok rfl | exact v_load_ext0 rfl (by assumption) rfl (by rfl) | exact v_index rfl rfl rfl rfl (by omega) (by omega) (by with_reducible first | exact idx5 _  ) ) ?_ | refine l_nil ?_ | refine c_region ?_ | refine c_seq ?_ | refine x_then ?_ | refine c_dec_f rfl (by first | omega ) ?_ | refine c_ret ?_ | refine c_exit ?_ | refine x_then_exit ?_ | refine x_block_same ?_ | refine l_dec_f rfl rfl rfl rfl rfl (by first | omega ) ?_ )
    exact x_ret rfl rfl (by repeat (first | exact Res.nil | (apply Res.tmp; rfl) | (apply Res.cell; rfl; exact (by repeat (first | exact List.Mem.head _ | apply List.Mem.tail)); rfl; rfl))) rfl (fun W hW => ⟨hbel hW, .inr (.inl ⟨hE, hpl.symm, rfl⟩)⟩)
  | more i k n bp c r l =>
    obtain ⟨g1, g2, g3, g4, g5, g6⟩ := hs
    have hp : Unit → l ++ prf a b i k = pairL a b := hp
    show RunC _ _ _ _ _ [(0, .slice A a.length ca), (1, .slice B b.length cb), (7, .slice (some ⟨bc, 0, none⟩) (a.length + 1) (a.length + 1)), (8, .slice (some ⟨bp, 0, none⟩) n c), (9, .int .i64 (i : Int)), (10, .int .i64 (k : Int))] [(bp, .cells ⟨flatP l ++ r⟩ 62 (0, 0))]
    by_cases hi : i < a.length
    · obtain ⟨x, hx⟩ : ∃ x, a[i]? = some x := ⟨_, List.getElem?_eq_getElem hi⟩
      obtain ⟨bA, oA, hAe, gA⟩ := eA i x hx
      by_cases hk : k < b.length
      · obtain ⟨y, hy⟩ : ∃ y, b[k]? = some y := ⟨_, List.getElem?_eq_getElem hk⟩
        obtain ⟨bB, oB, hBe, gB⟩ := eB k y hy
        have p1 := P1 i (by omega)
        have r1 := R1 i k (by omega) (by omega)
        have p2 : Ext W1 (allBut W1 (List.map (·.1) ([] : List (Nat × Obj)))) bc (((i : Nat) : Int) + 1).toNat [.slice (some ⟨bs (i + 1), 0, none⟩) (b.length + 1) (b.length + 1)] := by rw [show (((i : Nat) : Int) + 1).toNat = i + 1 by omega]; exact P1 (i + 1) (by omega)
        have r3 := R1 (i + 1) k (by omega) (by omega)
        have r2 : Ext W1 (allBut W1 (List.map (·.1) ([] : List (Nat × Obj)))) (bs (i + 1)) (((k : Nat) : Int) + 1).toNat [.int .i64 (lf a b (i + 1) (k + 1))] := by rw [show (((k : Nat) : Int) + 1).toNat = k + 1 by omega]; exact R1 (i + 1) (k + 1) (by omega) (by omega)
        have d1 := lf_bd a b i k (by omega) (by omega)
        have d2 := lf_bd a b (i + 1) (k + 1) (by omega) (by omega)
        have d3 := lf_bd a b (i + 1) k (by omega) (by omega)
        have d4 := bes_bd x y
        subst hAe hBe
        by_cases c1 : lf a b i k = bes x y + lf a b (i + 1) (k + 1)
        · repeat (first | refine l_val rfl rfl (by first | exact v_add rfl rfl (by omega) (by omega) | exact pureEval_ok rfl | exact v_buildA rfl rfl rfl (by rfl) ) ?_ | refine l_nil ?_ | refine c_region ?_ | refine c_seq ?_ | refine x_then ?_ | refine l_skip rfl rfl ?_ | refine r_buildSlice rfl rfl rfl rfl rfl rfl (by rfl) (fun _ => ?_) | refine c_true rfl ?_ | refine c_dec_t rfl (by first | omega ) ?_ | refine c_block ?_ | refine c_skip ?_ | refine l_dec_t rfl rfl rfl rfl rfl (by first | omega ) ?_ | refine c_reads rfl (by decide +kernel) ?_ | refine q_val rfl rfl (by first | exact v_add rfl rfl (by omega) (by omega) | exact pureEval_ok rfl | exact v_load_ext0 rfl (by assumption) rfl (by rfl) | exact v_index rfl rfl rfl rfl (by omega) (by omega) (by with_reducible first | exact idx1 _  | exact idx2 _ _  | exact idx5 _  ) ) ?_ | refine q_nil ?_ | refine q_dec_t rfl rfl rfl rfl (by first | omega ) ?_ | (refine q_call rfl rfl rfl (fun W hW => Beside_calls x y W) ?_) )
          refine r_append (m := 1) (ys := prE (((i : Nat) : Int) + 1, ((k : Nat) : Int) + 1)) rfl rfl rfl rfl rfl rfl (news_own (by repeat (first | exact List.Mem.head _ | apply List.Mem.tail))) (by repeat (first | exact Rem.head | apply Rem.tail)) g6 rfl rfl (by decide) (by omega) (by unfold maxLen; omega) (fun b7 c7 r7 hg7 => ?_)
          rw [← flatP_snoc] at hg7 ⊢
          repeat (first | refine l_val rfl rfl (by first | exact pureEval_ok rfl ) ?_ | refine l_nil ?_ | refine x_then ?_ | refine c_exit ?_ | refine x_then_exit ?_ | refine x_block_same ?_ )
          refine x_back (.more (i + 1) (k + 1) (n + 1) b7 c7 r7 (l ++ [(((i : Nat) : Int) + 1, ((k : Nat) : Int) + 1)])) ⟨⟨by omega, by omega, by omega, by omega, by rw [List.length_append, g5]; rfl, hg7⟩, fun _ => by have := hp (); rw [prf_both hx hy c1] at this; exact (List.append_assoc l [_] _).trans this⟩ (by simp only [LS.i, LS.k]; omega) (by repeat (first | exact EnvSub.nil | refine EnvSub.cons rfl (by first | rfl | (congr 1; done) | (exact congrArg (Value.int _) (by omega)) | (simp; done)) ?_)) (by repeat (first | exact MSub.nil | refine MSub.keep (by first | rfl | assumption) ?_ | refine MSub.drop ?_ | exact MSub.refl _))
        · by_cases c2 : lf a b i k = 2 + lf a b (i + 1) k
          · repeat (first | refine l_val rfl rfl (by first | exact v_add rfl rfl (by omega) (by omega) | exact pureEval_ok rfl | exact v_buildA rfl rfl rfl (by rfl) ) ?_ | refine l_nil ?_ | refine c_region ?_ | refine c_seq ?_ | refine x_then ?_ | refine l_skip rfl rfl ?_ | refine r_buildSlice rfl rfl rfl rfl rfl rfl (by rfl) (fun _ => ?_) | refine c_true rfl ?_ | refine c_dec_t rfl (by first | omega ) ?_ | refine c_dec_f rfl (by first | omega ) ?_ | refine c_block ?_ | refine c_skip ?_ | refine l_dec_t rfl rfl rfl rfl rfl (by first | omega ) ?_ | refine c_reads rfl (by decide +kernel) ?_ | refine q_val rfl rfl (by first | exact v_add rfl rfl (by omega) (by omega) | exact pureEval_ok rfl | exact v_load_ext0 rfl (by assumption) rfl (by rfl) | exact v_index rfl rfl rfl rfl (by omega) (by omega) (by with_reducible first | exact idx1 _  | exact idx2 _ _  | exact idx5 _  ) ) ?_ | refine q_nil ?_ | refine q_dec_t rfl rfl rfl rfl (by first | omega ) ?_ | (refine q_call rfl rfl rfl (fun W hW => Beside_calls x y W) ?_) )
            refine r_append (m := 1) (ys := prE (((i : Nat) : Int) + 1, 0)) rfl rfl rfl rfl rfl rfl (news_own (by repeat (first | exact List.Mem.head _ | apply List.Mem.tail))) (by repeat (first | exact Rem.head | apply Rem.tail)) g6 rfl rfl (by decide) (by omega) (by unfold maxLen; omega) (fun b7 c7 r7 hg7 => ?_)
            rw [← flatP_snoc] at hg7 ⊢
            repeat (first | refine l_val rfl rfl (by first | exact pureEval_ok rfl ) ?_ | refine l_nil ?_ | refine x_then ?_ | refine c_exit ?_ | refine x_then_exit ?_ | refine x_block_same ?_ )
            refine x_back (.more (i + 1) k (n + 1) b7 c7 r7 (l ++ [(((i : Nat) : Int) + 1, 0)])) ⟨⟨by omega, by omega, by omega, by omega, by rw [List.length_append, g5]; rfl, hg7⟩, fun _ => by have := hp (); rw [prf_left hx hy c1 c2] at this; exact (List.append_assoc l [_] _).trans this⟩ (by simp only [LS.i, LS.k]; omega) (by repeat (first | exact EnvSub.nil | refine EnvSub.cons rfl (by first | rfl | (congr 1; done) | (exact congrArg (Value.int _) (by omega)) | (simp; done)) ?_)) (by repeat (first | exact MSub.nil | refine MSub.keep (by first | rfl | assumption) ?_ | refine MSub.drop ?_ | exact MSub.refl _))
          · repeat (first | refine l_val rfl rfl (by first | exact v_add rfl rfl (by omega) (by omega) | exact pureEval_ok rfl | exact v_buildA rfl rfl rfl (by rfl) ) ?_ | refine l_nil ?_ | refine c_region ?_ | refine c_seq ?_ | refine x_then ?_ | refine l_skip rfl rfl ?_ | refine r_buildSlice rfl rfl rfl rfl rfl rfl (by rfl) (fun _ => ?_) | refine c_true rfl ?_ | refine c_dec_f rfl (by first | omega ) ?_ | refine c_block ?_ | refine c_skip ?_ | refine l_dec_t rfl rfl rfl rfl rfl (by first | omega ) ?_ | refine c_reads rfl (by decide +kernel) ?_ | refine q_val rfl rfl (by first | exact v_add rfl rfl (by omega) (by omega) | exact pureEval_ok rfl | exact v_load_ext0 rfl (by assumption) rfl (by rfl) | exact v_index rfl rfl rfl rfl (by omega) (by omega) (by with_reducible first | exact idx1 _  | exact idx2 _ _  | exact idx5 _  ) ) ?_ | refine q_nil ?_ | refine q_dec_t rfl rfl rfl rfl (by first | omega ) ?_ | (refine q_call rfl rfl rfl (fun W hW => Beside_calls x y W) ?_) )
            refine r_append (m := 1) (ys := prE (0, ((k : Nat) : Int) + 1)) rfl rfl rfl rfl rfl rfl (news_own (by repeat (first | exact List.Mem.head _ | apply List.Mem.tail))) (by repeat (first | exact Rem.head | apply Rem.tail)) g6 rfl rfl (by decide) (by omega) (by unfold maxLen; omega) (fun b7 c7 r7 hg7 => ?_)
            rw [← flatP_snoc] at hg7 ⊢
            repeat (first | refine l_val rfl rfl (by first | exact pureEval_ok rfl ) ?_ | refine l_nil ?_ | refine x_block ?_ )
            refine x_back (.more i (k + 1) (n + 1) b7 c7 r7 (l ++ [(0, ((k : Nat) : Int) + 1)])) ⟨⟨by omega, by omega, by omega, by omega, by rw [List.length_append, g5]; rfl, hg7⟩, fun _ => by have := hp (); rw [prf_right hx hy c1 c2] at this; exact (List.append_assoc l [_] _).trans this⟩ (by simp only [LS.i, LS.k]; omega) (by repeat (first | exact EnvSub.nil | refine EnvSub.cons rfl (by first | rfl | (congr 1; done) | (exact congrArg (Value.int _) (by omega)) | (simp; done)) ?_)) (by repeat (first | exact MSub.nil | refine MSub.keep (by first | rfl | assumption) ?_ | refine MSub.drop ?_ | exact MSub.refl _))
      · have hk0 : k = b.length := by omega
        obtain ⟨c1, c2⟩ := prf_lefts (b := b) hx hk0
        have p1 := P1 i (by omega)
        have r1 := R1 i k (by omega) (by omega)
        have p2 : Ext W1 (allBut W1 (List.map (·.1) ([] : List (Nat × Obj)))) bc (((i : Nat) : Int) + 1).toNat [.slice (some ⟨bs (i + 1), 0, none⟩) (b.length + 1) (b.length + 1)] := by rw [show (((i : Nat) : Int) + 1).toNat = i + 1 by omega]; exact P1 (i + 1) (by omega)
        have r3 := R1 (i + 1) k (by omega) (by omega)
        have d1 := lf_bd a b i k (by omega) (by omega)
        have d3 := lf_bd a b (i + 1) k (by omega) (by omega)
        subst hAe
        repeat (first | refine l_val rfl rfl (by first | exact v_add rfl rfl (by omega) (by omega) | exact pureEval_ok rfl | exact v_buildA rfl rfl rfl (by rfl) ) ?_ | refine l_nil ?_ | refine c_region ?_ | refine c_seq ?_ | refine x_then ?_ | refine l_skip rfl rfl ?_ | refine r_buildSlice rfl rfl rfl rfl rfl rfl (by rfl) (fun _ => ?_) | refine c_true rfl ?_ | refine c_false rfl ?_ | refine c_dec_t rfl (by first | omega ) ?_ | refine c_block ?_ | refine c_skip ?_ | refine l_dec_t rfl rfl rfl rfl rfl (by first | omega ) ?_ | refine c_reads rfl (by decide +kernel) ?_ | refine q_val rfl rfl (by first | exact v_add rfl rfl (by omega) (by omega) | exact pureEval_ok rfl | exact v_load_ext0 rfl (by assumption) rfl (by rfl) | exact v_index rfl rfl rfl rfl (by omega) (by omega) (by with_reducible first | exact idx1 _  | exact idx5 _  ) ) ?_ | refine q_nil ?_ | refine q_skip rfl rfl ?_ | refine q_dec_t rfl rfl rfl rfl (by first | omega ) ?_ | refine q_dec_f rfl rfl rfl rfl (by first | omega ) ?_ )
        refine r_append (m := 1) (ys := prE (((i : Nat) : Int) + 1, 0)) rfl rfl rfl rfl rfl rfl (news_own (by repeat (first | exact List.Mem.head _ | apply List.Mem.tail))) (by repeat (first | exact Rem.head | apply Rem.tail)) g6 rfl rfl (by decide) (by omega) (by unfold maxLen; omega) (fun b7 c7 r7 hg7 => ?_)
        rw [← flatP_snoc] at hg7 ⊢
        repeat (first | refine l_val rfl rfl (by first | exact pureEval_ok rfl ) ?_ | refine l_nil ?_ | refine x_then ?_ | refine c_exit ?_ | refine x_then_exit ?_ | refine x_block_same ?_ )
        refine x_back (.more (i + 1) k (n + 1) b7 c7 r7 (l ++ [(((i : Nat) : Int) + 1, 0)])) ⟨⟨by omega, by omega, by omega, by omega, by rw [List.length_append, g5]; rfl, hg7⟩, fun _ => by have := hp (); rw [c1] at this; exact (List.append_assoc l [_] _).trans this⟩ (by simp only [LS.i, LS.k]; omega) (by repeat (first | exact EnvSub.nil | refine EnvSub.cons rfl (by first | rfl | (congr 1; done) | (exact congrArg (Value.int _) (by omega)) | (simp; done)) ?_)) (by repeat (first | exact MSub.nil | refine MSub.keep (by first | rfl | assumption) ?_ | refine MSub.drop ?_ | exact MSub.refl _))
    by_cases hk : k < b.length
    · obtain ⟨y, hy⟩ : ∃ y, b[k]? = some y := ⟨_, List.getElem?_eq_getElem hk⟩
      have c1 := prf_rights (a := a) (i := i) (by omega) hy
      repeat (first | refine l_val rfl rfl (by first | exact v_add rfl rfl (by omega) (by omega) | exact pureEval_ok rfl | exact v_buildA rfl rfl rfl (by rfl) ) ?_ | refine l_nil ?_ | refine c_region ?_ | refine c_seq ?_ | refine x_then ?_ | refine r_buildSlice rfl rfl rfl rfl rfl rfl (by rfl) (fun _ => ?_) | refine c_false rfl ?_ | refine c_dec_t rfl (by first | omega ) ?_ | refine c_block ?_ | refine c_skip ?_ | refine l_dec_f rfl rfl rfl rfl rfl (by first | omega ) ?_ | refine c_reads rfl (by decide +kernel) ?_ | refine q_val rfl rfl (by first | exact pureEval_ok rfl ) ?_ | refine q_nil ?_ | refine q_skip rfl rfl ?_ | refine q_dec_f rfl rfl rfl rfl (by first | omega ) ?_ )
      refine r_append (m := 1) (ys := prE (0, ((k : Nat) : Int) + 1)) rfl rfl rfl rfl rfl rfl (news_own (by repeat (first | exact List.Mem.head _ | apply List.Mem.tail))) (by repeat (first | exact Rem.head | apply Rem.tail)) g6 rfl rfl (by decide) (by omega) (by unfold maxLen; omega) (fun b7 c7 r7 hg7 => ?_)
      rw [← flatP_snoc] at hg7 ⊢
      repeat (first | refine l_val rfl rfl (by first | exact pureEval_ok rfl ) ?_ | refine l_nil ?_ | refine x_block ?_ )
      refine x_back (.more i (k + 1) (n + 1) b7 c7 r7 (l ++ [(0, ((k : Nat) : Int) + 1)])) ⟨⟨by omega, by omega, by omega, by omega, by rw [List.length_append, g5]; rfl, hg7⟩, fun _ => by have := hp (); rw [c1] at this; exact (List.append_assoc l [_] _).trans this⟩ (by simp only [LS.i, LS.k]; omega) (by repeat (first | exact EnvSub.nil | refine EnvSub.cons rfl (by first | rfl | (congr 1; done) | (exact congrArg (Value.int _) (by omega)) | (simp; done)) ?_)) (by repeat (first | exact MSub.nil | refine MSub.keep (by first | rfl | assumption) ?_ | refine MSub.drop ?_ | exact MSub.refl _))
    have c1 := prf_end (a := a) (b := b) (i := i) (k := k) (by omega) (by omega)
    have hpl := hp ()
    rw [c1, List.append_nil] at hpl
    have p0 : Ext W1 (allBut W1 (List.map (·.1) ([] : List (Nat × Obj)))) bc (0 : Int).toNat [.slice (some ⟨bs 0, 0, none⟩) (b.length + 1) (b.length + 1)] := P1 0 (by omega)
    have r0 : Ext W1 (allBut W1 (List.map (·.1) ([] : List (Nat × Obj)))) (bs 0) (0 : Int).toNat [.int .i64 (lf a b 0 0)] := R1 0 0 (by omega) (by omega)
    repeat (first | refine l_val rfl rfl (by first | exact pureEval_ok rfl | exact v_load_ext0 rfl (by assumption) rfl (by rfl) | exact v_index rfl rfl rfl rfl (by omega) (by omega) (by with_reducible first | exact idx5 _  ) ) ?_ | refine l_nil ?_ | refine c_region ?_ | refine c_seq ?_ | refine x_then ?_ | refine c_dec_f rfl (by first | omega ) ?_ | refine c_ret ?_ | refine c_exit ?_ | refine x_then_exit ?_ | refine x_block_same ?_ | refine l_dec_f rfl rfl rfl rfl rfl (by first | omega ) ?_ )
    have hn : n = (pairL a b).length := by rw [← hpl, g5]
    refine x_ret rfl rfl (by repeat (first | exact Res.nil | (apply Res.tmp; rfl) | (apply Res.cell; rfl; exact (by repeat (first | exact List.Mem.head _ | apply List.Mem.tail)); rfl; rfl))) rfl (fun W hW => ⟨hbel hW, .inr (.inr ⟨hE, fun h => by rw [h] at hn; simp at hn; omega, bp, c, r, ?_, hown hW (q := (bp, _)) (by repeat (first | exact List.Mem.head _ | apply List.Mem.tail)), ?_⟩)⟩)
    · rw [hn]; rfl
    · have := (hW.own (bp, _) (by repeat (first | exact List.Mem.head _ | apply List.Mem.tail))).2; rw [← hpl]; exact this
end R41
end Go.Proofs
