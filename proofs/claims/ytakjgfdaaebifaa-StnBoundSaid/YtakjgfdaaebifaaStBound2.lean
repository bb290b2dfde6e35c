/- Bound, walked. -/
import Derived.Test.YtakjgfdaaebifaaStBound
import Derived.Test.YtakjgfdaaebifaaEng9
set_option linter.unusedSectionVars false
set_option linter.unusedVariables false
set_option linter.unusedSimpArgs false
namespace Go.Proofs
open Go.RowKit Go.Kin Go.Kin.St
namespace R22

theorem reaches_within {n : Int} {l : List Lk} {K : Int} {p : (Nat → Int) × (Nat → Bool)} (hF : Fine n l) (hK : Within K p.1) (j : Nat) : Within (K + 1099511627776 * j) (((edges l).take j).foldl reach p).1 := by
  induction j with
  | zero => simpa using hK
  | succ j ih =>
    by_cases hj : j < (edges l).length
    · rw [fold_take _ _ _ hj]
      have hw := hF.weights _ (List.getElem_mem hj)
      exact (reach_within ih hw.1 hw.2).mono (by omega)
    · rw [List.take_of_length_le (by omega)] at ih ⊢
      exact ih.mono (by omega)
theorem reached_within {n : Int} {l : List Lk} (hF : Fine n l) (hl : l.length ≤ 256) (a k : Nat) : Within (562949953421312 * k) (reached (edges l) k (origin a)).1 := by
  induction k with
  | zero => exact Within.zero (by omega)
  | succ k ih =>
    have h := reaches_within hF ih (edges l).length
    rw [List.take_length] at h
    have := edges_len l
    exact h.mono (by omega)

set_option maxHeartbeats 1000000 in
theorem Bound_calls (n : Int) (a b : Int) (A : Option Addr) (cap : Nat) (l : List Lk) (w : World) (hl : l.length ≤ 1000) (hA : At w A 4 (l.map lkE)) :
    Calls Try.prog 20 ⟨[.agg ⟨netCells n A l.length cap⟩, .int .i64 a, .int .i64 b]⟩ w fun e w' => e = .returned (bndV (bnd n l a b)) ∧ Below w.heap.size w w' := by
  refine fun_enter Try.func20 rfl Try.ntmps20 rfl rfl (satW_nil w) ?_
  repeat (first | refine l_val rfl rfl (by first | exact pureEval_ok rfl | exact v_load rfl (by repeat (first | exact List.Mem.head _ | apply List.Mem.tail)) rfl (by rfl) ) ?_ | refine l_nil ?_ | refine c_region ?_ | refine c_seq ?_ | refine x_then ?_ | refine r_box rfl rfl rfl rfl (fun _ => ?_) )
  refine r_call rfl rfl rfl (fun W hW => check_calls n A cap l W hl (hA.sat hW)) ?_
  repeat (first | refine l_val rfl rfl (by first | exact pureEval_ok rfl ) ?_ | refine l_nil ?_ | refine c_region ?_ | refine c_seq ?_ | refine x_then ?_ )
  rename_i b1
  by_cases h0 : chk n l = 0
  · obtain ⟨c1, c2, c3, hF⟩ := chk_fine h0
    obtain ⟨N, rfl⟩ : ∃ N : Nat, n = N := ⟨n.toNat, by omega⟩
    by_cases hp : ptsIn N a b
    · obtain ⟨p1, p2, p3, p4⟩ := hp
      have hp : ptsIn N a b := ⟨p1, p2, p3, p4⟩
      obtain ⟨i, rfl⟩ : ∃ i : Nat, a = i := ⟨a.toNat, by omega⟩
      obtain ⟨j, rfl⟩ : ∃ j : Nat, b = j := ⟨b.toNat, by omega⟩
      repeat (first | refine l_val rfl rfl (by first | exact pureEval_ok rfl | exact v_load rfl (by repeat (first | exact List.Mem.head _ | apply List.Mem.tail)) rfl (by rfl) ) ?_ | refine l_nil ?_ | refine c_region ?_ | refine c_seq ?_ | refine x_then ?_ | refine c_dec_f rfl (by first | omega | exact fun h => h rfl ) ?_ | refine c_skip ?_ | refine l_dec_f rfl rfl rfl rfl rfl (by first | omega | exact fun h => h rfl ) ?_ )
      cases he : ear N l with
      | none =>
        refine r_call rfl rfl rfl (fun W hW => earQ_none (Ear_calls N A cap l W hl (hA.sat hW)) he) ?_
        repeat (first | refine l_val rfl rfl (by first | exact pureEval_ok rfl ) ?_ | refine l_nil ?_ | refine c_region ?_ | refine c_seq ?_ | refine x_then ?_ | refine c_true rfl ?_ | refine c_ret ?_ | refine x_then_ret ?_ )
        refine x_ret rfl rfl (by repeat (first | exact Res.nil | (apply Res.tmp; rfl) | (apply Res.cell; rfl; exact (by repeat (first | exact List.Mem.head _ | apply List.Mem.tail)); rfl; rfl))) rfl (fun W hW => ⟨?_, hW.below⟩)
        rw [bnd_none h0 hp he]; rfl
      | some L =>
        refine r_call1 (ι := Nat) (bk := fun b => b) rfl rfl rfl (fun W hW => earQ_some (Ear_calls N A cap l W hl (hA.sat hW)) he) (fun b5 => ?_)
        repeat (first | refine l_val rfl rfl (by first | exact pureEval_ok rfl | exact v_load rfl (by repeat (first | exact List.Mem.head _ | apply List.Mem.tail)) rfl (by rfl) | exact v_indexA rfl rfl rfl rfl (by omega) (by omega) (by with_reducible first | exact idx1 _  ) ) ?_ | refine l_nil ?_ | refine c_region ?_ | refine c_seq ?_ | refine x_then ?_ | refine r_alloc rfl rfl rfl (by first | exact aggL ) (fun _ => ?_) | refine r_store_at rfl rfl rfl rfl rfl rfl (by repeat (first | exact Upd.head | apply Upd.tail)) (by first | (rw [bvec_length]; omega) ) (by first | exact bvec_set ) ?_ | refine c_false rfl ?_ | refine c_block ?_ | refine c_skip ?_ )
        rename_i b7 b8
        have hb0 : iset (fun _ => false) i true = (origin i).2 := by
          funext x
          simp only [iset, origin]
          by_cases hx : x = i
          · simp [hx]
          · simp [hx]
        refine c_loopD (ι := Nat × List Nat) (fun p => p.1 ≤ N) (fun p => p.2.map Kin.mark) (fun _ => noJ)
          (fun p => [(1, .int .i64 i), (2, .int .i64 j), (3, .pointer (some ⟨b1, 0, none⟩)), (12, .pointer (some ⟨b7, 0, none⟩)), (13, .pointer (some ⟨b8, 0, none⟩)), (44, .int .i64 N), (45, .int .i64 p.1)])
          (fun p => (b8, .cells ⟨bvec 64 (reached (edges l) p.1 (origin i)).2⟩ 71 (0, 0)) :: (b7, .cells ⟨ivec 64 (reached (edges l) p.1 (origin i)).1⟩ 70 (0, 0)) :: (b1, .cells ⟨netCells N A l.length cap⟩ 24 (0, 0)) :: p.2.map opn)
          (fun p => N - p.1) (0, []) (by simp only; omega) rfl rfl (by repeat (first | exact EnvSub.nil | refine EnvSub.cons rfl (by first | rfl | (congr 1; done) | (exact congrArg (Value.int _) (by omega)) | (simp; done)) ?_)) (by rw [show (reached (edges l) (0, ([] : List Nat)).1 (origin i)).2 = iset (fun _ => false) i true from hb0.symm]; exact (by repeat (first | exact MSub.nil | refine MSub.keep (by first | rfl | assumption) ?_ | refine MSub.drop ?_ | exact MSub.refl _))) ?_
        rintro ⟨q, Ds⟩ hq
        simp only at hq ⊢
        by_cases hlt : q < N
        · obtain ⟨p, hpp⟩ : ∃ p, reached (edges l) q (origin i) = p := ⟨_, rfl⟩
          have hw : Within (562949953421312 * q) p.1 := by rw [← hpp]; exact reached_within hF c3 i q
          rw [hpp]
          repeat (first | refine l_val rfl rfl (by first | exact pureEval_ok rfl | exact v_load rfl (by repeat (first | exact List.Mem.head _ | apply List.Mem.tail)) rfl (by rfl) ) ?_ | refine l_nil ?_ | refine c_region ?_ | refine c_seq ?_ | refine x_then ?_ | refine c_dec_t rfl (by first | omega ) ?_ | refine c_block ?_ | refine c_skip ?_ )
          refine r_call1 (ι := Nat) (bk := fun b => b) rfl rfl rfl (fun W hW => steps_calls N A l.length cap W) (fun b9 => ?_)
          repeat (first | refine l_nil ?_ | refine x_then ?_ | refine c_block ?_ )
          refine c_range rsE (raw l) (Rd w b9) [(b9, .cells ⟨netCells N A l.length cap⟩ 24 (0, 0))] (ι := Nat) (fun k => k) (fun k => k ≤ (raw l).length)
            (fun k => (b8, .cells ⟨bvec 64 (((edges l).take k).foldl reach p).2⟩ 71 (0, 0)) :: (b7, .cells ⟨ivec 64 (((edges l).take k).foldl reach p).1⟩ 70 (0, 0)) :: (b1, .cells ⟨netCells N A l.length cap⟩ 24 (0, 0)) :: Ds.map opn)
            (fun _ _ => False) 0 rfl (fun W W1 hW hs => it_of hl hA hF c2 hW (by repeat (first | exact List.Mem.head _ | apply List.Mem.tail)) hs) (fun b hb => hb.imp id fun e => by simp [e]) (fun _ _ => rfl) (by decide) rfl (Nat.zero_le _) (by repeat (first | exact MSub.nil | refine MSub.keep (by first | rfl | assumption) ?_ | refine MSub.drop ?_ | exact MSub.refl _))
            (env' := [(12, .pointer (some ⟨b7, 0, none⟩)), (13, .pointer (some ⟨b8, 0, none⟩))]) (by repeat (first | exact EnvSub.nil | refine EnvSub.cons rfl (by first | rfl | (congr 1; done) | (exact congrArg (Value.int _) (by omega)) | (simp; done)) ?_)) ?_ ?_ ?_
          · intro k _ hk m lp W1 hW1 hDl hol
            obtain ⟨s, hs⟩ : ∃ s, (raw l)[k] = s := ⟨_, rfl⟩
            have hs2 : (raw l)[k]? = some s := by rw [List.getElem?_eq_getElem hk, hs]
            rw [hs]
            have hf := raw_fine hF hs2
            obtain ⟨u, hu⟩ : ∃ u, ((edges l).take k).foldl reach p = u := ⟨_, rfl⟩
            have hwu : Within (562949953421312 * q + 1099511627776 * k) u.1 := by rw [← hu]; exact reaches_within hF hw k
            have hu2 : ((edges l).take (k + 1)).foldl reach p = reach u (rsEd s) := by
              rw [List.take_add_one, edges_get hs2, List.foldl_append, hu]; rfl
            have hw3 := hwu s.a.toNat
            have hw4 := hwu s.b.toNat
            have hk2 : k ≤ 512 := by have := raw_len l; omega
            rw [hu] at hW1 hol ⊢
            repeat (first | refine l_nil ?_ | refine c_region ?_ | refine r_alloc rfl rfl rfl (by first | exact aggL ) (fun _ => ?_) | refine r_store rfl rfl rfl rfl rfl rfl rfl (by repeat (first | exact Upd.head | apply Upd.tail)) (by rfl) ?_ )
            refine x_body hW1 hDl hol (fun n2 W2 r hW2 hr2 ho => ?_)
            have hkeep : u.2 s.a.toNat = false → reach u (rsEd s) = u := fun h => by unfold reach; rw [if_neg (fun h2 => by have := h2.1; simp only [rsEd] at this; rw [h] at this; cases this)]
            cases hma : u.2 s.a.toNat with
            | false =>
              repeat (first | refine c_seq ?_ | refine x_then ?_ | refine c_false rfl ?_ | refine c_block ?_ | refine c_skip ?_ | refine x_block ?_ | refine c_reads rfl (by decide +kernel) ?_ | refine q_val rfl rfl (by first | exact pureEval_ok rfl | exact v_load rfl (by repeat (first | exact List.Mem.head _ | apply List.Mem.tail)) rfl (by rfl) | exact v_indexA rfl rfl rfl rfl (by omega) (by omega) (by with_reducible first | exact idx1 _  | exact idx5 _  ) | exact v_load_at rfl (by repeat (first | exact List.Mem.head _ | apply List.Mem.tail)) rfl rfl (by first | exact bvec_getE (by omega) (by assumption) ) ) ?_ | refine q_nil ?_ | refine q_skip rfl rfl ?_ )
              refine x_next (k + 1) rfl hk ?_
              rw [hu2, hkeep hma]
              exact (by repeat (first | exact MSub.nil | refine MSub.keep (by first | rfl | assumption) ?_ | refine MSub.drop ?_ | exact MSub.refl _))
            | true =>
              have hdo : (u.2 s.b.toNat = false ∨ u.1 s.a.toNat + s.w < u.1 s.b.toNat) → reach u (rsEd s) = (iset u.1 s.b.toNat (u.1 s.a.toNat + s.w), iset u.2 s.b.toNat true) := fun h => by
                unfold reach; rw [if_pos ⟨hma, h⟩]; rfl
              cases hmb : u.2 s.b.toNat with
              | false =>
                repeat (first | refine c_seq ?_ | refine x_then ?_ | refine c_true rfl ?_ | refine c_block ?_ | refine c_reads rfl (by decide +kernel) ?_ | refine q_val rfl rfl (by first | exact pureEval_ok rfl | exact v_load rfl (by repeat (first | exact List.Mem.head _ | apply List.Mem.tail)) rfl (by rfl) | exact v_indexA rfl rfl rfl rfl (by omega) (by omega) (by with_reducible first | exact idx1 _  | exact idx5 _  ) | exact v_load_at rfl (by repeat (first | exact List.Mem.head _ | apply List.Mem.tail)) rfl rfl (by first | exact bvec_getE (by omega) (by assumption) ) ) ?_ | refine q_nil ?_ | refine q_skip rfl rfl ?_ )
                refine c_gen [(12,2),(14,1)] [(12,2,s.b.toNat,1),(14,1,s.b.toNat,1)] [(7,2)] rfl (by decide +kernel) (by repeat' (first | exact trivial | apply And.intro | exact Or.inl (Nat.ne_of_beq_eq_false rfl) | (right; simp only; omega))) ?_; repeat (first | refine x_block ?_ | refine g_val rfl rfl rfl (by first | exact v_add rfl rfl (by omega) (by omega) | exact pureEval_ok rfl | exact v_load rfl (by repeat (first | exact List.Mem.head _ | apply List.Mem.tail)) rfl (by rfl) | exact v_indexA rfl rfl rfl rfl (by omega) (by omega) (by with_reducible first | exact idx5 _  ) | exact v_load_at rfl (by repeat (first | exact List.Mem.head _ | apply List.Mem.tail)) rfl rfl (by first | exact ivec_get (by omega) ) ) ?_ | refine g_store rfl rfl rfl rfl rfl rfl rfl rfl (by first | rfl ) rfl rfl (by first | (rw [ivec_length]; omega) | (rw [bvec_length]; omega) ) (by first | exact splice_one (by first | (rw [ivec_length]; omega) | (rw [bvec_length]; omega) ) (by first | exact ivec_set | exact bvec_set ) ) rfl ?_ | refine g_nil ?_ )
                refine x_next (k + 1) rfl hk ?_
                rw [hu2, hdo (.inl hmb)]
                exact (by repeat (first | exact MSub.nil | refine MSub.keep (by first | rfl | assumption) ?_ | refine MSub.drop ?_ | exact MSub.refl _))
              | true =>
                by_cases hlt2 : u.1 s.a.toNat + s.w < u.1 s.b.toNat
                · repeat (first | refine c_seq ?_ | refine x_then ?_ | refine c_dec_t rfl (by first | omega ) ?_ | refine c_block ?_ | refine c_reads rfl (by decide +kernel) ?_ | refine q_val rfl rfl (by first | exact v_add rfl rfl (by omega) (by omega) | exact pureEval_ok rfl | exact v_load rfl (by repeat (first | exact List.Mem.head _ | apply List.Mem.tail)) rfl (by rfl) | exact v_indexA rfl rfl rfl rfl (by omega) (by omega) (by with_reducible first | exact idx5 _  ) | exact v_load_at rfl (by repeat (first | exact List.Mem.head _ | apply List.Mem.tail)) rfl rfl (by first | exact ivec_get (by omega) | exact bvec_getE (by omega) (by assumption) ) ) ?_ | refine q_nil ?_ )
                  refine c_gen [(12,2),(14,1)] [(12,2,s.b.toNat,1),(14,1,s.b.toNat,1)] [(7,2)] rfl (by decide +kernel) (by repeat' (first | exact trivial | apply And.intro | exact Or.inl (Nat.ne_of_beq_eq_false rfl) | (right; simp only; omega))) ?_; repeat (first | refine x_block ?_ | refine g_val rfl rfl rfl (by first | exact v_add rfl rfl (by omega) (by omega) | exact pureEval_ok rfl | exact v_load rfl (by repeat (first | exact List.Mem.head _ | apply List.Mem.tail)) rfl (by rfl) | exact v_indexA rfl rfl rfl rfl (by omega) (by omega) (by with_reducible first | exact idx5 _  ) | exact v_load_at rfl (by repeat (first | exact List.Mem.head _ | apply List.Mem.tail)) rfl rfl (by first | exact ivec_get (by omega) ) ) ?_ | refine g_store rfl rfl rfl rfl rfl rfl rfl rfl (by first | rfl ) rfl rfl (by first | (rw [ivec_length]; omega) | (rw [bvec_length]; omega) ) (by first | exact splice_one (by first | (rw [ivec_length]; omega) | (rw [bvec_length]; omega) ) (by first | exact ivec_set | exact bvec_set ) ) rfl ?_ | refine g_nil ?_ )
                  refine x_next (k + 1) rfl hk ?_
                  rw [hu2, hdo (.inr hlt2)]
                  exact (by repeat (first | exact MSub.nil | refine MSub.keep (by first | rfl | assumption) ?_ | refine MSub.drop ?_ | exact MSub.refl _))
                · repeat (first | refine c_seq ?_ | refine x_then ?_ | refine c_dec_f rfl (by first | omega ) ?_ | refine c_block ?_ | refine c_skip ?_ | refine x_block ?_ | refine c_reads rfl (by decide +kernel) ?_ | refine q_val rfl rfl (by first | exact v_add rfl rfl (by omega) (by omega) | exact pureEval_ok rfl | exact v_load rfl (by repeat (first | exact List.Mem.head _ | apply List.Mem.tail)) rfl (by rfl) | exact v_indexA rfl rfl rfl rfl (by omega) (by omega) (by with_reducible first | exact idx5 _  ) | exact v_load_at rfl (by repeat (first | exact List.Mem.head _ | apply List.Mem.tail)) rfl rfl (by first | exact ivec_get (by omega) | exact bvec_getE (by omega) (by assumption) ) ) ?_ | refine q_nil ?_ )
                  refine x_next (k + 1) rfl hk ?_
                  have hkeep : reach u (rsEd s) = u := by
                    unfold reach
                    rw [if_neg (fun h => by
                      rcases h.2 with h2 | h2
                      · simp only [rsEd] at h2; rw [hmb] at h2; cases h2
                      · exact hlt2 h2)]
                  rw [hu2, hkeep]
                  exact (by repeat (first | exact MSub.nil | refine MSub.keep (by first | rfl | assumption) ?_ | refine MSub.drop ?_ | exact MSub.refl _))
          · intro B k hk _
            subst hk
            have hlen : (raw l).length = (edges l).length := by rw [← raw_edges, List.length_map]
            rw [hlen, List.take_length]
            repeat (first | refine l_val rfl rfl (by first | exact v_add rfl rfl (by omega) (by omega) | exact pureEval_ok rfl ) ?_ | refine l_nil ?_ | refine c_region ?_ | refine x_then ?_ | refine x_block ?_ )
            subst hpp
            exact x_sink4 (x_backD (q + 1, B :: Ds) (by simp only; omega) (by simp only; omega) rfl rfl (by repeat (first | exact EnvSub.nil | refine EnvSub.cons rfl (by first | rfl | (congr 1; done) | (exact congrArg (Value.int _) (by omega)) | (simp; done)) ?_)) (by repeat (first | exact MSub.nil | refine MSub.keep (by first | rfl | assumption) ?_ | refine MSub.drop ?_ | exact MSub.refl _)))
          · intro B c i h
            exact h.elim
        · have hqk : q = N := by omega
          subst hqk
          have hi : i < 64 := by omega
          have hj : j < 64 := by omega
          repeat (first | refine l_val rfl rfl (by first | exact pureEval_ok rfl ) ?_ | refine l_nil ?_ | refine c_region ?_ | refine c_seq ?_ | refine x_then ?_ | refine c_dec_f rfl (by first | omega ) ?_ | refine c_ret ?_ | refine c_exit ?_ | refine x_then_exit ?_ | refine x_block_same ?_ | refine c_reads rfl (by decide +kernel) ?_ | refine q_val rfl rfl (by first | exact pureEval_ok rfl | exact v_indexA rfl rfl rfl rfl (by omega) (by omega) (by with_reducible first | exact idx1 _  ) | exact v_load_at rfl (by repeat (first | exact List.Mem.head _ | apply List.Mem.tail)) rfl rfl (by first | exact ivec_get (by omega) | exact bvec_get (by omega) ) ) ?_ | refine q_nil ?_ )
          refine x_rets (Ds := Ds) rfl rfl (by repeat (first | exact Split.nil | exact Split.all | apply Split.mark | apply Split.keep)) rfl (by repeat (first | exact Res.nil | (apply Res.tmp; rfl) | (apply Res.cell; rfl; exact (by repeat (first | exact List.Mem.head _ | apply List.Mem.tail)); rfl; rfl))) rfl (fun W hW => ⟨?_, hW.below⟩)
          rw [bnd_some h0 hp he]; rfl
    · have hp2 := hp
      unfold ptsIn at hp2
      repeat' (first | refine l_val rfl rfl (by first | exact pureEval_ok rfl | exact v_load rfl (by repeat (first | exact List.Mem.head _ | apply List.Mem.tail)) rfl (by rfl) ) ?_ | refine l_nil ?_ | refine c_region ?_ | refine c_seq ?_ | refine x_then ?_ | refine l_skip rfl rfl ?_ | refine c_true rfl ?_ | refine c_dec_t rfl (by first | omega ) ?_ | refine c_dec_f rfl (by first | omega ) ?_ | refine c_skip ?_ | refine c_ret ?_ | refine x_then_ret ?_ | refine l_dec rfl rfl rfl rfl rfl (fun _ => ?_) (fun _ => ?_) )
      all_goals first
        | (exfalso; omega)
        | (refine x_ret rfl rfl (by repeat (first | exact Res.nil | (apply Res.tmp; rfl) | (apply Res.cell; rfl; exact (by repeat (first | exact List.Mem.head _ | apply List.Mem.tail)); rfl; rfl))) rfl (fun W hW => ⟨?_, hW.below⟩)
           rw [bnd_arg h0 hp]; rfl)
  · repeat (first | refine l_val rfl rfl (by first | exact pureEval_ok rfl ) ?_ | refine l_nil ?_ | refine c_region ?_ | refine c_seq ?_ | refine x_then ?_ | refine c_dec_t rfl (by first | omega ) ?_ | refine c_ret ?_ | refine x_then_ret ?_ )
    refine x_ret rfl rfl (by repeat (first | exact Res.nil | (apply Res.tmp; rfl) | (apply Res.cell; rfl; exact (by repeat (first | exact List.Mem.head _ | apply List.Mem.tail)); rfl; rfl))) rfl (fun W hW => ⟨?_, hW.below⟩)
    rw [bnd_chk h0]; rfl
end R22
end Go.Proofs
