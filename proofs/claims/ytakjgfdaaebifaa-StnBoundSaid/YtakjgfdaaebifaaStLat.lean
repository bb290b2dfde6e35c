/- The specification's Earliest, and small functions. -/
import Derived.Test.YtakjgfdaaebifaaStMts
set_option linter.unusedSectionVars false
set_option linter.unusedVariables false
set_option linter.unusedSimpArgs false
namespace Go.Proofs
open Go.RowKit Go.Kin Go.Kin.St
namespace R22

theorem Few_calls (n : Int) (A : Option Addr) (len cap : Nat) (w : World) :
    Calls Try.prog 11 ⟨[.agg ⟨netCells n A len cap⟩]⟩ w fun e w' => e = .returned (.bool (decide ((len : Int) ≤ 300))) ∧ Below w.heap.size w w' := by
  refine fun_enter Try.func11 rfl Try.ntmps11 rfl rfl (satW_nil w) ?_
  repeat (first | refine l_val rfl rfl (by first | exact pureEval_ok rfl | exact v_load rfl (by repeat (first | exact List.Mem.head _ | apply List.Mem.tail)) rfl (by rfl) ) ?_ | refine l_nil ?_ | refine c_region ?_ | refine c_seq ?_ | refine x_then ?_ | refine r_box rfl rfl rfl rfl (fun _ => ?_) | refine c_ret ?_ )
  exact x_ret rfl rfl (by repeat (first | exact Res.nil | (apply Res.tmp; rfl) | (apply Res.cell; rfl; exact (by repeat (first | exact List.Mem.head _ | apply List.Mem.tail)); rfl; rfl))) rfl (fun W hW => ⟨rfl, hW.below⟩)

theorem Same_calls (T U : Option Addr) (capT capU : Nat) (t u : List Int) (w : World) (ht : t.length ≤ 1000) (hu : u.length ≤ 1000) (hT : At w T 1 (t.map inE)) (hU : At w U 1 (u.map inE)) :
    Calls Try.prog 24 ⟨[.slice T t.length capT, .slice U u.length capU]⟩ w fun e w' => e = .returned (.bool (decide (t = u))) ∧ Below w.heap.size w w' := by
  refine fun_enter Try.func24 rfl Try.ntmps24 rfl rfl (satW_nil w) ?_
  repeat' (first | refine l_val rfl rfl (by first | exact pureEval_ok rfl ) ?_ | refine l_nil ?_ | refine c_region ?_ | refine c_seq ?_ | refine x_then ?_ | refine c_block ?_ | refine c_skip ?_ | refine c_ret ?_ | refine x_then_ret ?_ | refine c_dec rfl (fun _ => ?_) (fun _ => ?_) )
  · rename_i h1
    refine x_ret rfl rfl (by repeat (first | exact Res.nil | (apply Res.tmp; rfl) | (apply Res.cell; rfl; exact (by repeat (first | exact List.Mem.head _ | apply List.Mem.tail)); rfl; rfl))) rfl (fun W hW => ⟨?_, hW.below⟩)
    have hno : ¬ t = u := fun e => by subst e; exact h1 rfl
    rw [decide_eq_false hno]
  · rename_i h1
    have hlen : t.length = u.length := by omega
    refine c_loop (ι := Nat) (fun k => k ≤ t.length ∧ t.take k = u.take k) (fun k => [(0, .slice T t.length capT), (1, .slice U u.length capU), (5, .int .i64 k)]) (fun _ => []) (fun k => t.length - k) 0 ⟨by omega, by simp⟩ (by repeat (first | exact EnvSub.nil | refine EnvSub.cons rfl (by first | rfl | (congr 1; done) | (exact congrArg (Value.int _) (by omega)) | (simp; done)) ?_)) (by repeat (first | exact MSub.nil | refine MSub.keep (by first | rfl | assumption) ?_ | refine MSub.drop ?_ | exact MSub.refl _)) ?_
    rintro k ⟨hk, hM⟩
    by_cases hlt : k < t.length
    · obtain ⟨b1, o1, rfl, e1⟩ := at_int hT (i := k) (by omega) (by omega)
      obtain ⟨b2, o2, rfl, e2⟩ := at_int hU (i := k) (by omega) (by omega)
      simp only [Int.toNat_natCast] at e1 e2
      have g1 : t[k]? = some (tf t k) := by unfold tf; rw [List.getD_eq_getElem?_getD, List.getElem?_eq_getElem hlt]; rfl
      have g2 : u[k]? = some (tf u k) := by unfold tf; rw [List.getD_eq_getElem?_getD, List.getElem?_eq_getElem (by omega)]; rfl
      repeat' (first | refine l_val rfl rfl (by first | exact v_add rfl rfl (by omega) (by omega) | exact pureEval_ok rfl ) ?_ | refine l_nil ?_ | refine c_region ?_ | refine c_seq ?_ | refine x_then ?_ | refine c_dec_t rfl (by first | omega ) ?_ | refine c_block ?_ | refine c_skip ?_ | refine c_ret ?_ | refine x_then_ret ?_ | refine x_block ?_ | refine x_block_ret ?_ | refine c_reads rfl (by decide +kernel) ?_ | refine q_val rfl rfl (by first | exact pureEval_ok rfl | exact v_load_ext0 rfl (by assumption) rfl (by rfl) | exact v_index rfl rfl rfl rfl (by omega) (by omega) (by with_reducible first | exact idx2 _ _  ) ) ?_ | refine q_nil ?_ | refine c_dec rfl (fun _ => ?_) (fun _ => ?_) )
      all_goals first
        | (refine x_ret rfl rfl (by repeat (first | exact Res.nil | (apply Res.tmp; rfl) | (apply Res.cell; rfl; exact (by repeat (first | exact List.Mem.head _ | apply List.Mem.tail)); rfl; rfl))) rfl (fun W hW => ⟨?_, hW.below⟩)
           have hno : ¬ t = u := fun e => by
             subst e
             rename_i hne
             exact hne rfl
           rw [decide_eq_false hno])
        | (refine x_back (k + 1) ⟨hlt, ?_⟩ (by omega) (by repeat (first | exact EnvSub.nil | refine EnvSub.cons rfl (by first | rfl | (congr 1; done) | (exact congrArg (Value.int _) (by omega)) | (simp; done)) ?_)) (by repeat (first | exact MSub.nil | refine MSub.keep (by first | rfl | assumption) ?_ | refine MSub.drop ?_ | exact MSub.refl _))
           rw [List.take_add_one, List.take_add_one, hM, g1, g2]
           congr 3
           omega)
    · have hkl : k = t.length := by omega
      subst hkl
      have hyes : t = u := by rw [List.take_length, hlen, List.take_length] at hM; exact hM
      repeat (first | refine l_val rfl rfl (by first | exact pureEval_ok rfl ) ?_ | refine l_nil ?_ | refine c_region ?_ | refine c_seq ?_ | refine x_then ?_ | refine c_dec_f rfl (by first | omega ) ?_ | refine c_ret ?_ | refine c_exit ?_ | refine x_then_exit ?_ | refine x_block_same ?_ )
      refine x_ret rfl rfl (by repeat (first | exact Res.nil | (apply Res.tmp; rfl) | (apply Res.cell; rfl; exact (by repeat (first | exact List.Mem.head _ | apply List.Mem.tail)); rfl; rfl))) rfl (fun W hW => ⟨?_, hW.below⟩)
      rw [decide_eq_true hyes]

theorem net_calls (n : Int) (A : Option Addr) (len cap : Nat) (w : World) :
    Calls Try.prog 27 ⟨[.int .i64 n, .slice A len cap]⟩ w fun e w' => e = .returned (.agg ⟨netCells n A len cap⟩) ∧ Below w.heap.size w w' := by
  refine fun_enter Try.func27 rfl Try.ntmps27 rfl rfl (satW_nil w) ?_
  repeat (first | refine l_val rfl rfl (by first | exact pureEval_ok rfl | exact v_build rfl rfl (by rfl) ) ?_ | refine l_nil ?_ | refine c_region ?_ | refine c_seq ?_ | refine x_then ?_ | refine r_alloc rfl rfl rfl (by first | rfl ) (fun _ => ?_) | refine r_store rfl rfl rfl rfl rfl rfl rfl (by repeat (first | exact Upd.head | apply Upd.tail)) (by rfl) ?_ | refine c_ret ?_ )
  exact x_ret rfl rfl (by repeat (first | exact Res.nil | (apply Res.tmp; rfl) | (apply Res.cell; rfl; exact (by repeat (first | exact List.Mem.head _ | apply List.Mem.tail)); rfl; rfl))) rfl (fun W hW => ⟨rfl, hW.below⟩)

/-- one link of the specification's later -/
def lat1 (p : (Nat → Int) × Bool) (x : Lk) : (Nat → Int) × Bool := flagged (flagged p (dn x)) (up x)
theorem lat_fold (l : List Lk) (p : (Nat → Int) × Bool) : (edges' l).foldl flagged p = l.foldl lat1 p := by
  induction l generalizing p with
  | nil => rfl
  | cons x l ih => simp only [edges', List.foldl_cons, ih]; rfl

theorem flagged_within {K W : Int} {p : (Nat → Int) × Bool} {e : Ed} (h : Within K p.1) (h1 : -W ≤ e.w) (h2 : e.w ≤ W) : Within (K + W) (flagged p e).1 := by
  rw [flagged_fst]; exact raise_within h h1 h2

theorem flagged_eq (p : (Nat → Int) × Bool) (e : Ed) : flagged p e = if p.1 e.a < p.1 e.b - e.w then (iset p.1 e.a (p.1 e.b - e.w), true) else p := rfl

theorem lat_within {n : Int} {l : List Lk} {f : Nat → Int} {K : Int} (hF : Fine n l) (hK : Within K f) (k : Nat) (hk : k ≤ l.length) : Within (K + 2199023255552 * k) ((l.take k).foldl lat1 (f, false)).1 := by
  induction k with
  | zero => simpa using hK
  | succ k ih =>
    have h := ih (by omega)
    obtain ⟨x, hx⟩ : ∃ x, l[k]? = some x := ⟨_, List.getElem?_eq_getElem (by omega)⟩
    have hf := hF x (List.mem_of_getElem? hx)
    unfold Lk.Fine at hf
    rw [List.take_add_one, hx, List.foldl_append]
    have h1 := flagged_within (e := dn x) (W := 1099511627776) h (by simp only [dn]; omega) (by simp only [dn]; omega)
    have h2 := flagged_within (e := up x) (W := 1099511627776) h1 (by simp only [up]; omega) (by simp only [up]; omega)
    exact h2.mono (by omega)

theorem later_calls (n : Int) (N : Nat) (A : Option Addr) (cap b : Nat) (l : List Lk) (f : Nat → Int) (K : Int) (w : World) (hl : l.length ≤ 1000) (hA : At w A 4 (l.map lkE)) (hF : Fine n l) (hn : n ≤ N)
    (hK : Within K f) (hK2 : K ≤ 4611686018427387904) (hb : w.heap[b]? = some (.cells ⟨ivec N f⟩ 3 (0, 0))) (hAb : ∀ a, A = some a → l ≠ [] → a.block ≠ b) :
    Calls Try.prog 32 ⟨[.slice A l.length cap, .slice (some ⟨b, 0, none⟩) N N]⟩ w fun e w' => ∃ u : Unit, e = .returned (.tuple ⟨[.slice (some ⟨b, 0, none⟩) N N, .bool (l.foldl lat1 (f, false)).2]⟩) ∧ Same (fun k => k ≠ b) w w' ∧
      w'.heap[b]? = some (.cells ⟨ivec N (l.foldl lat1 (f, false)).1⟩ 3 (0, 0)) := by
  have hsat : SatW w (fun k => k < w.heap.size ∧ k ≠ b) noJ [(b, .cells ⟨ivec N f⟩ 3 (0, 0))] w :=
    ⟨Same.refl _ _, fun _ h => h.1, by simp, fun p hp => by rw [List.mem_singleton.1 hp]; exact ⟨fun h => h.2 rfl, hb⟩, closed_noJ, trivial⟩
  refine fun_enter Try.func32 rfl Try.ntmps32 rfl rfl hsat ?_
  repeat (first | refine l_val rfl rfl (by first | exact pureEval_ok rfl ) ?_ | refine l_nil ?_ | refine c_region ?_ | refine c_seq ?_ | refine x_then ?_ | refine c_block ?_ )
  refine c_loop (ι := Nat) (fun k => k ≤ l.length) (fun k => [(0, .slice A l.length cap), (1, .slice (some ⟨b, 0, none⟩) N N), (6, .bool ((l.take k).foldl lat1 (f, false)).2), (7, .int .i64 k)])
    (fun k => [(b, .cells ⟨ivec N ((l.take k).foldl lat1 (f, false)).1⟩ 3 (0, 0))]) (fun k => l.length - k) 0 (by omega) (by repeat (first | exact EnvSub.nil | refine EnvSub.cons rfl (by first | rfl | (congr 1; done) | (exact congrArg (Value.int _) (by omega)) | (simp; done)) ?_)) (by repeat (first | exact MSub.nil | refine MSub.keep (by first | rfl | assumption) ?_ | refine MSub.drop ?_ | exact MSub.refl _)) ?_
  intro k hk
  by_cases hlt : k < l.length
  · obtain ⟨x, hx⟩ : ∃ x, l[k]? = some x := ⟨_, List.getElem?_eq_getElem hlt⟩
    obtain ⟨b', o, rfl, hc⟩ := hA k (lkE x) (by simp [hx])
    have he : Ext w (fun k => k < w.heap.size ∧ k ≠ b) b' (o + k * 4) (lkE x) := ⟨⟨lt_of_cell (hc 0 _ rfl), hAb _ rfl (fun e => by subst e; simp at hlt)⟩, hc⟩
    have hf := hF x (List.mem_of_getElem? hx)
    unfold Lk.Fine at hf
    have hfold : (l.take (k + 1)).foldl lat1 (f, false) = lat1 ((l.take k).foldl lat1 (f, false)) x := by
      rw [List.take_add_one, hx, List.foldl_append]; rfl
    have hw := lat_within hF hK k hk
    obtain ⟨p, hp⟩ : ∃ p, (l.take k).foldl lat1 (f, false) = p := ⟨_, rfl⟩
    rw [hp] at hfold hw ⊢
    have w1 := hw x.fr.toNat
    have w2 := hw x.to.toNat
    have hK3 : K + 2199023255552 * (k : Int) ≤ 4613885241496862720 := by omega
    obtain ⟨q, hq⟩ : ∃ q, flagged p (dn x) = q := ⟨_, rfl⟩
    have hwq : Within (K + 2199023255552 * k + 1099511627776) q.1 := by rw [← hq]; exact flagged_within hw (by simp only [dn]; omega) (by simp only [dn]; omega)
    have w3 := hwq x.fr.toNat
    have w4 := hwq x.to.toNat
    repeat ((fail_if_success refine c_probe (id := 6) ?_); (fail_if_success refine c_probe1 (id := 6) ?_); first | refine l_val rfl rfl (by first | exact pureEval_ok rfl | exact v_load_ext0 rfl (by assumption) rfl (by rfl) | exact v_index rfl rfl rfl rfl (by omega) (by omega) (by with_reducible first | exact idx4 _ _ _  ) ) ?_ | refine l_nil ?_ | refine c_region ?_ | refine c_seq ?_ | refine x_then ?_ | refine r_alloc rfl rfl rfl (by first | rfl ) (fun _ => ?_) | refine r_store rfl rfl rfl rfl rfl rfl rfl (by repeat (first | exact Upd.head | apply Upd.tail)) (by rfl) ?_ | refine c_dec_t rfl (by first | omega ) ?_ | refine c_block ?_ | refine c_skip ?_ )
    rename_i bx
    refine c_join [(0, .slice (some ⟨b', o, none⟩) l.length cap), (1, .slice (some ⟨b, 0, none⟩) N N), (6, .bool q.2), (7, .int .i64 k), (8, .pointer (some ⟨bx, 0, none⟩))] [(bx, .cells ⟨lkE x⟩ 47 (0, 0)), (b, .cells ⟨ivec N q.1⟩ 3 (0, 0))] ?_ ?_
    · clear w3 w4 hwq
      repeat' (first | refine l_val rfl rfl (by first | exact pureEval_ok rfl ) ?_ | refine l_nil ?_ | refine c_region ?_ | refine c_seq ?_ | refine x_then ?_ | refine c_skip ?_ | refine c_reads rfl (by decide +kernel) ?_ | refine c_cut rfl (by decide +kernel) ?_ | refine q_val rfl rfl (by first | exact v_add rfl rfl (by omega) (by omega) | exact pureEval_ok rfl | exact v_load rfl (by repeat (first | exact List.Mem.head _ | apply List.Mem.tail)) rfl (by rfl) | exact v_index rfl rfl rfl rfl (by omega) (by omega) (by with_reducible first | exact idx5 _  ) | exact v_load_at rfl (by repeat (first | exact List.Mem.head _ | apply List.Mem.tail)) rfl rfl (by first | exact ivec_get (by omega) ) ) ?_ | refine q_nil ?_ | refine h_val rfl rfl (by first | exact v_add rfl rfl (by omega) (by omega) | exact pureEval_ok rfl | exact v_load rfl (by repeat (first | exact List.Mem.head _ | apply List.Mem.tail)) rfl (by rfl) | exact v_index rfl rfl rfl rfl (by omega) (by omega) (by with_reducible first | exact idx5 _  ) | exact v_load_at rfl (by repeat (first | exact List.Mem.head _ | apply List.Mem.tail)) rfl rfl (by first | exact ivec_get (by omega) ) ) ?_ | refine h_do1 rfl (by decide +kernel) (by decide +kernel) rfl rfl (by first | exact d_store_at rfl rfl rfl rfl rfl (by repeat (first | exact Upd.head | apply Upd.tail)) (by first | (rw [ivec_length]; omega) ) (by first | exact ivec_set ) ) ?_ | refine c_dec rfl (fun _ => ?_) (fun _ => ?_) )
      · rename_i h
        obtain rfl : q = (iset p.1 x.to.toNat (p.1 x.fr.toNat + x.lo), true) := by
          rw [← hq, flagged_eq, if_pos (by simp only [dn]; omega)]; simp only [dn, Int.sub_neg]
        exact x_mid (by repeat (first | exact EnvSub.nil | refine EnvSub.cons rfl (by first | rfl | (congr 1; done) | (exact congrArg (Value.int _) (by omega)) | (simp; done)) ?_)) (by repeat (first | exact MSub.nil | refine MSub.keep (by first | rfl | assumption) ?_ | refine MSub.drop ?_ | exact MSub.refl _))
      · rename_i h
        obtain rfl : q = p := by rw [← hq, flagged_eq, if_neg (by simp only [dn]; omega)]
        exact x_mid (by repeat (first | exact EnvSub.nil | refine EnvSub.cons rfl (by first | rfl | (congr 1; done) | (exact congrArg (Value.int _) (by omega)) | (simp; done)) ?_)) (by repeat (first | exact MSub.nil | refine MSub.keep (by first | rfl | assumption) ?_ | refine MSub.drop ?_ | exact MSub.refl _))
    · clear w1 w2 hw
      repeat' (first | refine l_val rfl rfl (by first | exact v_add rfl rfl (by omega) (by omega) | exact pureEval_ok rfl ) ?_ | refine l_nil ?_ | refine c_region ?_ | refine c_seq ?_ | refine x_then ?_ | refine c_skip ?_ | refine x_block ?_ | refine c_reads rfl (by decide +kernel) ?_ | refine c_cut rfl (by decide +kernel) ?_ | refine q_val rfl rfl (by first | exact v_sub rfl rfl (by omega) (by omega) | exact pureEval_ok rfl | exact v_load rfl (by repeat (first | exact List.Mem.head _ | apply List.Mem.tail)) rfl (by rfl) | exact v_index rfl rfl rfl rfl (by omega) (by omega) (by with_reducible first | exact idx5 _  ) | exact v_load_at rfl (by repeat (first | exact List.Mem.head _ | apply List.Mem.tail)) rfl rfl (by first | exact ivec_get (by omega) ) ) ?_ | refine q_nil ?_ | refine h_val rfl rfl (by first | exact v_sub rfl rfl (by omega) (by omega) | exact pureEval_ok rfl | exact v_load rfl (by repeat (first | exact List.Mem.head _ | apply List.Mem.tail)) rfl (by rfl) | exact v_index rfl rfl rfl rfl (by omega) (by omega) (by with_reducible first | exact idx5 _  ) | exact v_load_at rfl (by repeat (first | exact List.Mem.head _ | apply List.Mem.tail)) rfl rfl (by first | exact ivec_get (by omega) ) ) ?_ | refine h_do1 rfl (by decide +kernel) (by decide +kernel) rfl rfl (by first | exact d_store_at rfl rfl rfl rfl rfl (by repeat (first | exact Upd.head | apply Upd.tail)) (by first | (rw [ivec_length]; omega) ) (by first | exact ivec_set ) ) ?_ | refine c_dec rfl (fun _ => ?_) (fun _ => ?_) )
      · rename_i h
        refine x_back (k + 1) hlt (by omega) ?_ ?_
        all_goals rw [hfold, show lat1 p x = (iset q.1 x.fr.toNat (q.1 x.to.toNat - x.hi), true) by
          unfold lat1; rw [hq, flagged_eq, if_pos (by simp only [up]; omega)]; rfl]
        · exact (by repeat (first | exact EnvSub.nil | refine EnvSub.cons rfl (by first | rfl | (congr 1; done) | (exact congrArg (Value.int _) (by omega)) | (simp; done)) ?_))
        · exact (by repeat (first | exact MSub.nil | refine MSub.keep (by first | rfl | assumption) ?_ | refine MSub.drop ?_ | exact MSub.refl _))
      · rename_i h
        refine x_back (k + 1) hlt (by omega) ?_ ?_
        all_goals rw [hfold, show lat1 p x = q by
          unfold lat1; rw [hq, flagged_eq, if_neg (by simp only [up]; omega)]]
        · exact (by repeat (first | exact EnvSub.nil | refine EnvSub.cons rfl (by first | rfl | (congr 1; done) | (exact congrArg (Value.int _) (by omega)) | (simp; done)) ?_))
        · exact (by repeat (first | exact MSub.nil | refine MSub.keep (by first | rfl | assumption) ?_ | refine MSub.drop ?_ | exact MSub.refl _))
  · have hkl : k = l.length := by omega
    subst hkl
    rw [List.take_length]
    repeat (first | refine l_val rfl rfl (by first | exact pureEval_ok rfl ) ?_ | refine l_nil ?_ | refine c_region ?_ | refine c_seq ?_ | refine x_then ?_ | refine c_dec_f rfl (by first | omega ) ?_ | refine c_ret ?_ | refine c_exit ?_ | refine x_then_exit ?_ | refine x_block_same ?_ )
    refine x_ret rfl rfl (by repeat (first | exact Res.nil | (apply Res.tmp; rfl) | (apply Res.cell; rfl; exact (by repeat (first | exact List.Mem.head _ | apply List.Mem.tail)); rfl; rfl))) rfl (fun W hW => ⟨(), rfl, ?_, (hW.own _ (by repeat (first | exact List.Mem.head _ | apply List.Mem.tail))).2⟩)
    exact hW.same.monoLt fun b hb hne => ⟨hb, hne⟩
end R22
end Go.Proofs
