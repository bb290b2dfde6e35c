/- The specification's Bound: the plain law of its distances, and sooner walked. -/
import Derived.Test.YtakjgfdaaebifaaStEar2
set_option linter.unusedSectionVars false
set_option linter.unusedVariables false
set_option linter.unusedSimpArgs false
namespace Go.Kin.St

/-- one step of the specification: what is not known is far -/
def soon (d : Nat → Int) (e : Ed) : Nat → Int := if d e.a < 1125899906842624 then upd d e.b (min (d e.b) (d e.a + e.w)) else d
def mix (p : (Nat → Int) × (Nat → Bool)) : Nat → Int := fun x => if p.2 x = true then p.1 x else 1125899906842624

theorem soon_mix {n : Nat} {B W : Int} {p : (Nat → Int) × (Nat → Bool)} {e : Ed} (ha : e.a < n) (hb : e.b < n) (hN : Near n B p) (hw : e.w ≤ W) (hB : B + W < 1125899906842624) (hW : 0 ≤ W) : soon (mix p) e = mix (reach p e) := by
  unfold soon
  by_cases hm : p.2 e.a = true
  · have h1 := hN _ ha hm
    have hma : mix p e.a = p.1 e.a := by unfold mix; rw [if_pos hm]
    rw [hma, if_pos (by omega)]
    by_cases hm2 : p.2 e.b = true
    · have hmb : mix p e.b = p.1 e.b := by unfold mix; rw [if_pos hm2]
      rw [hmb]
      by_cases hlt : p.1 e.a + e.w < p.1 e.b
      · have hr : reach p e = (upd p.1 e.b (p.1 e.a + e.w), upd p.2 e.b true) := by unfold reach; rw [if_pos ⟨hm, .inr hlt⟩]
        rw [hr, Int.min_eq_right (by omega)]
        funext x
        simp only [mix, upd]
        split <;> simp
      · have hr : reach p e = p := by unfold reach; rw [if_neg (fun h => by rcases h.2 with h | h; (· rw [hm2] at h; cases h); exact hlt h)]
        rw [hr, Int.min_eq_left (by omega)]
        funext x
        simp only [upd]
        split
        · rename_i hx; subst hx; rw [hmb]
        · rfl
    · have hm3 : p.2 e.b = false := by simpa using hm2
      have hmb : mix p e.b = 1125899906842624 := by unfold mix; rw [if_neg hm2]
      have hr : reach p e = (upd p.1 e.b (p.1 e.a + e.w), upd p.2 e.b true) := by unfold reach; rw [if_pos ⟨hm, .inl hm3⟩]
      rw [hr, hmb, Int.min_eq_right (by omega)]
      funext x
      simp only [mix, upd]
      split <;> simp
  · have hma : mix p e.a = 1125899906842624 := by unfold mix; rw [if_neg hm]
    have hr : reach p e = p := by unfold reach; rw [if_neg (fun h => hm h.1)]
    rw [hma, if_neg (by omega), hr]

theorem soons_mix {n : Nat} {W : Int} {E : List Ed} (hW : 0 ≤ W) (hE : In n E) (hw : ∀ e ∈ E, e.w ≤ W) (hB : (n : Int) * W + W < 1125899906842624) {p : (Nat → Int) × (Nat → Bool)} (h : Low n W p) : E.foldl soon (mix p) = mix (reachs E p) := by
  induction E generalizing p with
  | nil => rfl
  | cons e E ih =>
    show E.foldl soon (soon (mix p) e) = mix (reachs E (reach p e))
    have he := hE e List.mem_cons_self
    have hwe := hw e List.mem_cons_self
    rw [soon_mix he.1 he.2 (h.near hW) hwe hB hW]
    exact ih (fun f hf => hE f (List.mem_cons_of_mem _ hf)) (fun f hf => hw f (List.mem_cons_of_mem _ hf)) (reach_low hW he.1 he.2 hwe h)

theorem soon_within {K W : Int} {d : Nat → Int} {e : Ed} (h : Within K d) (h1 : -W ≤ e.w) (h2 : e.w ≤ W) : Within (K + W) (soon d e) := by
  have ha := h e.a
  have hb := h e.b
  unfold soon
  split
  · exact h.upd (by omega) _ (by omega) (by omega)
  · exact h.mono (by omega)

theorem soons_within {n : Int} {l : List Lk} {K : Int} {t : Nat → Int} (hF : Fine n l) (hK : Within K t) (j : Nat) : Within (K + 1099511627776 * j) (((edges l).take j).foldl soon t) := by
  induction j with
  | zero => simpa using hK
  | succ j ih =>
    by_cases hj : j < (edges l).length
    · rw [fold_take _ _ _ hj]
      have hw := hF.weights _ (List.getElem_mem hj)
      exact (soon_within ih hw.1 hw.2).mono (by omega)
    · rw [List.take_of_length_le (by omega)] at ih ⊢
      exact ih.mono (by omega)

/-- one link of it -/
def soon1 (d : Nat → Int) (x : Lk) : Nat → Int := soon (soon d (up x)) (dn x)
theorem soon_fold (l : List Lk) (d : Nat → Int) : (edges l).foldl soon d = l.foldl soon1 d := by
  induction l generalizing d with
  | nil => rfl
  | cons x l ih => simp only [edges, List.foldl_cons, ih]; rfl
theorem edges_take (l : List Lk) (k : Nat) : (edges l).take (2 * k) = edges (l.take k) := by
  induction k generalizing l with
  | zero => rfl
  | succ k ih =>
    cases l with
    | nil => simp [edges]
    | cons x l => rw [show 2 * (k + 1) = 2 * k + 1 + 1 by omega]; simp only [edges, List.take_succ_cons, ih]
theorem soon1_within {n : Int} {l : List Lk} {K : Int} {t : Nat → Int} (hF : Fine n l) (hK : Within K t) (j : Nat) : Within (K + 2199023255552 * j) ((l.take j).foldl soon1 t) := by
  rw [← soon_fold, ← edges_take]
  exact (soons_within hF hK (2 * j)).mono (by omega)
end Go.Kin.St

namespace Go.Proofs
open Go.RowKit Go.Kin Go.Kin.St
namespace R22

theorem sooner_calls (n : Int) (N : Nat) (A : Option Addr) (cap b : Nat) (l : List Lk) (f : Nat → Int) (K : Int) (w : World) (hl : l.length ≤ 1000) (hA : At w A 4 (l.map lkE)) (hF : Fine n l) (hn : n ≤ N)
    (hK : Within K f) (hK2 : K ≤ 4611686018427387904) (hb : w.heap[b]? = some (.cells ⟨ivec N f⟩ 3 (0, 0))) (hAb : ∀ a, A = some a → l ≠ [] → a.block ≠ b) :
    Calls Try.prog 33 ⟨[.slice A l.length cap, .slice (some ⟨b, 0, none⟩) N N]⟩ w fun e w' => ∃ u : Unit, e = .returned (.slice (some ⟨b, 0, none⟩) N N) ∧ Same (fun k => k ≠ b) w w' ∧
      w'.heap[b]? = some (.cells ⟨ivec N (l.foldl soon1 f)⟩ 3 (0, 0)) := by
  have hsat : SatW w (fun k => k < w.heap.size ∧ k ≠ b) noJ [(b, .cells ⟨ivec N f⟩ 3 (0, 0))] w :=
    ⟨Same.refl _ _, fun _ h => h.1, by simp, fun p hp => by rw [List.mem_singleton.1 hp]; exact ⟨fun h => h.2 rfl, hb⟩, closed_noJ, trivial⟩
  refine fun_enter Try.func33 rfl Try.ntmps33 rfl rfl hsat ?_
  repeat (first | refine l_val rfl rfl (by first | exact pureEval_ok rfl ) ?_ | refine l_nil ?_ | refine c_region ?_ | refine c_seq ?_ | refine x_then ?_ | refine c_block ?_ )
  refine c_loop (ι := Nat) (fun k => k ≤ l.length) (fun k => [(0, .slice A l.length cap), (1, .slice (some ⟨b, 0, none⟩) N N), (5, .int .i64 k)])
    (fun k => [(b, .cells ⟨ivec N ((l.take k).foldl soon1 f)⟩ 3 (0, 0))]) (fun k => l.length - k) 0 (by omega) (by repeat (first | exact EnvSub.nil | refine EnvSub.cons rfl (by first | rfl | (congr 1; done) | (exact congrArg (Value.int _) (by omega)) | (simp; done)) ?_)) (by repeat (first | exact MSub.nil | refine MSub.keep (by first | rfl | assumption) ?_ | refine MSub.drop ?_ | exact MSub.refl _)) ?_
  intro k hk
  by_cases hlt : k < l.length
  · obtain ⟨x, hx⟩ : ∃ x, l[k]? = some x := ⟨_, List.getElem?_eq_getElem hlt⟩
    obtain ⟨b', o, rfl, hc⟩ := hA k (lkE x) (by simp [hx])
    have he : Ext w (fun k => k < w.heap.size ∧ k ≠ b) b' (o + k * 4) (lkE x) := ⟨⟨lt_of_cell (hc 0 _ rfl), hAb _ rfl (fun e => by subst e; simp at hlt)⟩, hc⟩
    have hf := hF x (List.mem_of_getElem? hx)
    unfold Lk.Fine at hf
    have hfold : (l.take (k + 1)).foldl soon1 f = soon1 ((l.take k).foldl soon1 f) x := by
      rw [List.take_add_one, hx, List.foldl_append]; rfl
    have hw := soon1_within hF hK k
    obtain ⟨p, hp⟩ : ∃ p, (l.take k).foldl soon1 f = p := ⟨_, rfl⟩
    rw [hp] at hfold hw ⊢
    have w1 := hw x.fr.toNat
    have w2 := hw x.to.toNat
    have hK3 : K + 2199023255552 * (k : Int) ≤ 4613885241496862720 := by omega
    obtain ⟨q, hq⟩ : ∃ q, soon p (up x) = q := ⟨_, rfl⟩
    have hwq : Within (K + 2199023255552 * k + 1099511627776) q := by rw [← hq]; exact soon_within hw (by simp only [up]; omega) (by simp only [up]; omega)
    have w3 := hwq x.fr.toNat
    have w4 := hwq x.to.toNat
    repeat ((fail_if_success refine c_probe (id := 5) ?_); (fail_if_success refine c_probe1 (id := 5) ?_); first | refine l_val rfl rfl (by first | exact pureEval_ok rfl | exact v_load_ext0 rfl (by assumption) rfl (by rfl) | exact v_index rfl rfl rfl rfl (by omega) (by omega) (by with_reducible first | exact idx4 _ _ _  ) ) ?_ | refine l_nil ?_ | refine c_region ?_ | refine c_seq ?_ | refine x_then ?_ | refine r_alloc rfl rfl rfl (by first | exact aggL ) (fun _ => ?_) | refine r_store rfl rfl rfl rfl rfl rfl rfl (by repeat (first | exact Upd.head | apply Upd.tail)) (by rfl) ?_ | refine c_dec_t rfl (by first | omega ) ?_ | refine c_block ?_ | refine c_skip ?_ )
    rename_i bx
    refine c_join [(0, .slice (some ⟨b', o, none⟩) l.length cap), (1, .slice (some ⟨b, 0, none⟩) N N), (5, .int .i64 k), (6, .pointer (some ⟨bx, 0, none⟩))] [(bx, .cells ⟨lkE x⟩ 47 (0, 0)), (b, .cells ⟨ivec N q⟩ 3 (0, 0))] ?_ ?_
    · clear w3 w4 hwq
      repeat' (first | refine l_val rfl rfl (by first | exact pureEval_ok rfl | exact v_load rfl (by repeat (first | exact List.Mem.head _ | apply List.Mem.tail)) rfl (by rfl) | exact v_index rfl rfl rfl rfl (by omega) (by omega) (by with_reducible first | exact idx5 _  ) | exact v_load_at rfl (by repeat (first | exact List.Mem.head _ | apply List.Mem.tail)) rfl rfl (by first | exact ivec_get (by omega) ) ) ?_ | refine l_nil ?_ | refine c_region ?_ | refine c_seq ?_ | refine x_then ?_ | refine c_skip ?_ | refine c_cut rfl (by decide +kernel) ?_ | refine h_val rfl rfl (by first | exact v_add rfl rfl (by omega) (by omega) | exact pureEval_ok rfl | exact v_load rfl (by repeat (first | exact List.Mem.head _ | apply List.Mem.tail)) rfl (by rfl) | exact v_index rfl rfl rfl rfl (by omega) (by omega) (by with_reducible first | exact idx5 _  ) | exact v_load_at rfl (by repeat (first | exact List.Mem.head _ | apply List.Mem.tail)) rfl rfl (by first | exact ivec_get (by omega) ) ) ?_ | refine h_do1 rfl (by decide +kernel) (by decide +kernel) rfl rfl (by first | exact d_store_at rfl rfl rfl rfl rfl (by repeat (first | exact Upd.head | apply Upd.tail)) (by first | (rw [ivec_length]; omega) ) (by first | exact ivec_set ) ) ?_ | refine c_dec rfl (fun _ => ?_) (fun _ => ?_) )
      · rename_i h
        obtain rfl : q = iset p x.to.toNat (min (p x.to.toNat) (p x.fr.toNat + x.hi)) := by
          rw [← hq]; unfold soon; rw [if_pos (by simp only [up]; omega)]; rfl
        exact x_mid (by repeat (first | exact EnvSub.nil | refine EnvSub.cons rfl (by first | rfl | (congr 1; done) | (exact congrArg (Value.int _) (by omega)) | (simp; done)) ?_)) (by repeat (first | exact MSub.nil | refine MSub.keep (by first | rfl | assumption) ?_ | refine MSub.drop ?_ | exact MSub.refl _))
      · rename_i h
        obtain rfl : q = p := by
          rw [← hq]; unfold soon; rw [if_neg (by simp only [up]; omega)]
        exact x_mid (by repeat (first | exact EnvSub.nil | refine EnvSub.cons rfl (by first | rfl | (congr 1; done) | (exact congrArg (Value.int _) (by omega)) | (simp; done)) ?_)) (by repeat (first | exact MSub.nil | refine MSub.keep (by first | rfl | assumption) ?_ | refine MSub.drop ?_ | exact MSub.refl _))
    · clear w1 w2 hw
      repeat' (first | refine l_val rfl rfl (by first | exact v_add rfl rfl (by omega) (by omega) | exact pureEval_ok rfl | exact v_load rfl (by repeat (first | exact List.Mem.head _ | apply List.Mem.tail)) rfl (by rfl) | exact v_index rfl rfl rfl rfl (by omega) (by omega) (by with_reducible first | exact idx5 _  ) | exact v_load_at rfl (by repeat (first | exact List.Mem.head _ | apply List.Mem.tail)) rfl rfl (by first | exact ivec_get (by omega) ) ) ?_ | refine l_nil ?_ | refine c_region ?_ | refine c_seq ?_ | refine x_then ?_ | refine c_skip ?_ | refine x_block ?_ | refine c_cut rfl (by decide +kernel) ?_ | refine h_val rfl rfl (by first | exact v_sub rfl rfl (by omega) (by omega) | exact pureEval_ok rfl | exact v_load rfl (by repeat (first | exact List.Mem.head _ | apply List.Mem.tail)) rfl (by rfl) | exact v_index rfl rfl rfl rfl (by omega) (by omega) (by with_reducible first | exact idx5 _  ) | exact v_load_at rfl (by repeat (first | exact List.Mem.head _ | apply List.Mem.tail)) rfl rfl (by first | exact ivec_get (by omega) ) ) ?_ | refine h_do1 rfl (by decide +kernel) (by decide +kernel) rfl rfl (by first | exact d_store_at rfl rfl rfl rfl rfl (by repeat (first | exact Upd.head | apply Upd.tail)) (by first | (rw [ivec_length]; omega) ) (by first | exact ivec_set ) ) ?_ | refine c_dec rfl (fun _ => ?_) (fun _ => ?_) )
      · rename_i h
        refine x_back (k + 1) hlt (by omega) ?_ ?_
        · exact (by repeat (first | exact EnvSub.nil | refine EnvSub.cons rfl (by first | rfl | (congr 1; done) | (exact congrArg (Value.int _) (by omega)) | (simp; done)) ?_))
        · rw [hfold, show soon1 p x = iset q x.fr.toNat (min (q x.fr.toNat) (q x.to.toNat - x.lo)) by
            unfold soon1; rw [hq]; unfold soon; rw [if_pos (by simp only [dn]; omega)]; rfl]
          exact (by repeat (first | exact MSub.nil | refine MSub.keep (by first | rfl | assumption) ?_ | refine MSub.drop ?_ | exact MSub.refl _))
      · rename_i h
        refine x_back (k + 1) hlt (by omega) ?_ ?_
        · exact (by repeat (first | exact EnvSub.nil | refine EnvSub.cons rfl (by first | rfl | (congr 1; done) | (exact congrArg (Value.int _) (by omega)) | (simp; done)) ?_))
        · rw [hfold, show soon1 p x = q by
            unfold soon1; rw [hq]; unfold soon; rw [if_neg (by simp only [dn]; omega)]]
          exact (by repeat (first | exact MSub.nil | refine MSub.keep (by first | rfl | assumption) ?_ | refine MSub.drop ?_ | exact MSub.refl _))
  · have hkl : k = l.length := by omega
    subst hkl
    rw [List.take_length]
    repeat (first | refine l_val rfl rfl (by first | exact pureEval_ok rfl ) ?_ | refine l_nil ?_ | refine c_region ?_ | refine c_seq ?_ | refine x_then ?_ | refine c_dec_f rfl (by first | omega ) ?_ | refine c_ret ?_ | refine c_exit ?_ | refine x_then_exit ?_ | refine x_block_same ?_ )
    refine x_ret rfl rfl (by repeat (first | exact Res.nil | (apply Res.tmp; rfl) | (apply Res.cell; rfl; exact (by repeat (first | exact List.Mem.head _ | apply List.Mem.tail)); rfl; rfl))) rfl (fun W hW => ⟨(), rfl, ?_, (hW.own _ (by repeat (first | exact List.Mem.head _ | apply List.Mem.tail))).2⟩)
    exact hW.same.monoLt fun b hb hne => ⟨hb, hne⟩
end R22
end Go.Proofs
