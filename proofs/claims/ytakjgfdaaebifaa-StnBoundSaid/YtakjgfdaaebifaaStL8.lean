/- StnTighter, walked. -/
import Derived.Test.YtakjgfdaaebifaaStL5
import Derived.Test.YtakjgfdaaebifaaEng13
set_option linter.unusedSectionVars false
set_option linter.unusedVariables false
set_option linter.unusedSimpArgs false
namespace Go.Proofs
open Go.RowKit Go.Kin Go.Kin.St
namespace R22

/-- the cells of a slice that came in -/
theorem at_flat {w : World} {A : Option Addr} {l : List Lk} (hA : At w A 4 (l.map lkE)) (h : l ≠ []) : ∃ b o, A = some ⟨b, o, none⟩ ∧ Ext w (base w) b o (l.map lkE).flatten := by
  obtain ⟨x, l', rfl⟩ := List.exists_cons_of_ne_nil h
  obtain ⟨b, o, rfl, hc⟩ := hA 0 (lkE x) rfl
  refine ⟨b, o, rfl, ?_, fun i v hi => ?_⟩
  · have := hc 0 _ rfl
    exact lt_of_cell this
  · have hlen := flatten_len (lk_len (x :: l'))
    have hlt : i < 4 * ((x :: l').map lkE).length := by
      have := (List.getElem?_eq_some_iff.1 hi).1
      rw [hlen] at this; omega
    have hq : i / 4 < ((x :: l').map lkE).length := by omega
    obtain ⟨b', o', e, hc'⟩ := hA (i / 4) _ (List.getElem?_eq_getElem hq)
    cases e
    have hr := rowAt_flatten (rest := []) (lk_len (x :: l')) (List.getElem?_eq_getElem hq)
    have hrl := lk_len (x :: l') _ (List.getElem_mem hq)
    have h1 : ((x :: l').map lkE)[i / 4][i % 4]? = some v := by
      have hm : i % 4 < ((x :: l').map lkE)[i / 4].length := by rw [hrl]; omega
      rw [List.getElem?_eq_getElem hm]
      have h2 := hr.get (List.getElem?_eq_getElem hm)
      rw [List.append_nil, show i / 4 * 4 + i % 4 = i by omega, hi] at h2
      exact h2.symm
    have h3 := hc' _ _ h1
    rw [show o + i / 4 * 4 + i % 4 = o + i by omega] at h3
    exact h3
theorem lk_one (l : List Lk) : ∀ v ∈ (l.map lkE).flatten, v.oneCell' = true := by
  intro v hv
  obtain ⟨r, hr, hv⟩ := List.mem_flatten.1 hv
  obtain ⟨x, _, rfl⟩ := List.mem_map.1 hr
  simp only [lkE, List.mem_cons, List.not_mem_nil, or_false] at hv
  rcases hv with rfl | rfl | rfl | rfl <;> rfl
theorem lk_flat_len (l : List Lk) : (l.map lkE).flatten.length = l.length * 4 := by rw [flatten_len (lk_len l), List.length_map]
theorem lk_snoc (l : List Lk) (x : Lk) : (l.map lkE).flatten ++ lkE x = ((l ++ [x]).map lkE).flatten := by simp

/-! ## A further link -/
theorem edges_sub {l : List Lk} {x : Lk} {e : Ed} (h : e ∈ edges l) : e ∈ edges (l ++ [x]) := by
  obtain ⟨y, hy, hh⟩ := edges_mem.1 h
  exact edges_mem.2 ⟨y, List.mem_append_left _ hy, hh⟩
theorem sol_sub {l : List Lk} {x : Lk} {t : Nat → Int} (h : Sol (edges (l ++ [x])) t) : Sol (edges l) t := fun e he => h e (edges_sub he)
theorem ear_tighter {n : Int} {l : List Lk} {x : Lk} {U : Nat → Int} (hc : chk n l = 0) (hU : ear n (l ++ [x]) = some U) : ∃ L, ear n l = some L ∧ ∀ i, i < n.toNat → L i ≤ U i := by
  obtain ⟨_, hUl⟩ := ear_least hU
  cases he : ear n l with
  | none => exact absurd (sol_sub hUl.sol) (ear_none he hc U)
  | some L => exact ⟨L, rfl, (ear_least he).2.le U (sol_sub hUl.sol) hUl.pos⟩
theorem bnd_tighter {n : Int} {l : List Lk} {x : Lk} {p q : Int} {U : Nat → Int} (hc : chk n l = 0) (hU : ear n (l ++ [x]) = some U) (hp : ptsIn n p q) (h : (bndp n l p).2 q.toNat = true) :
    (bndp n (l ++ [x]) p).2 q.toNat = true ∧ (bndp n (l ++ [x]) p).1 q.toNat ≤ (bndp n l p).1 q.toNat := by
  obtain ⟨hc', hUl⟩ := ear_least hU
  obtain ⟨c1, c2, c3, hF⟩ := chk_fine hc
  obtain ⟨_, _, _, hF'⟩ := chk_fine hc'
  unfold ptsIn at hp
  have hb := (bound_means (W := 1099511627776) (by omega) hF.inE (fun e he => (hF.weights e he).2) (sol_sub hUl.sol) (a := p.toNat) (b := q.toNat) (by omega) (by omega) (Nat.le_refl n.toNat)).1 h
  have hb' := bound_means (W := 1099511627776) (by omega) hF'.inE (fun e he => (hF'.weights e he).2) hUl.sol (a := p.toNat) (b := q.toNat) (by omega) (by omega) (Nat.le_refl n.toNat)
  cases h2 : (bndp n (l ++ [x]) p).2 q.toNat with
  | false =>
    obtain ⟨_, h3⟩ := hb'.2 h2
    obtain ⟨t, ht, h4⟩ := h3 ((bndp n l p).1 q.toNat + 1)
    have h5 := hb.1 t (sol_sub ht)
    simp only [bndp] at h4 h5
    omega
  | true =>
    obtain ⟨_, t, ht, h4⟩ := hb'.1 h2
    have h5 := hb.1 t (sol_sub ht)
    exact ⟨rfl, by simp only [bndp] at h4 h5 ⊢; omega⟩

set_option maxRecDepth 100000 in
set_option maxHeartbeats 4000000 in
theorem stnTighter_calls (n : Int) (A : Option Addr) (cap : Nat) (l : List Lk) (x : Lk) (p q : Int) (w : World) (hl : l.length * 32 ≤ 140737488351232) (hA : At w A 4 (l.map lkE)) (hp : 0 ≤ p ∧ p ≤ 255) (hq : 0 ≤ q ∧ q ≤ 255) :
    Calls Try.prog 8 ⟨[.agg ⟨netCells n A l.length cap⟩, .agg ⟨lkE x⟩, .int .u8 p, .int .u8 q]⟩ w fun e w' => e = .returned (.bool true) ∧ Below w.heap.size w w' := by
  refine fun_enter Try.func8 rfl Try.ntmps8 rfl rfl (satW_nil w) ?_
  repeat (first | refine l_val rfl rfl (by first | exact pureEval_ok rfl ) ?_ | refine l_nil ?_ | refine c_region ?_ | refine c_seq ?_ | refine x_then ?_ | refine r_box rfl rfl rfl rfl (fun _ => ?_) )
  refine r_call rfl rfl rfl (fun W hW => sane_calls W) ?_
  repeat (first | refine l_val rfl rfl (by first | exact pureEval_ok rfl ) ?_ | refine l_nil ?_ | refine c_seq ?_ | refine x_then ?_ | refine c_false rfl ?_ | refine c_skip ?_ )
  refine c_new 2 5 [(2, .new 2), (5, .app 3 (some 2) 4), (7, .new 4), (8, .app 5 (some 3) 4), (10, .new 6), (11, .sto 6 0 2)] [(2,[2]),(5,[3,2]),(7,[4]),(8,[5,3]),(10,[6]),(11,[6])] [(5,2),(8,3),(8,4)] rfl (by decide +kernel) rfl ?_; repeat (first | refine e_val rfl rfl rfl rfl (by first | exact pureEval_ok rfl | exact v_load rfl (by repeat (first | exact List.Mem.head _ | apply List.Mem.tail)) rfl (by rfl) ) ?_ | refine e_new rfl rfl rfl rfl (by first | exact n_buildSlice rfl rfl rfl rfl (by rfl) ) (fun _ => ?_) )
  refine e_app (xs := (l.map lkE).flatten) (n := l.length) (e := 47) rfl rfl rfl rfl rfl (by decide) (lk_flat_len l) (by unfold maxLen; omega) rfl ?_ (fun b3 cap3 rest3 hg3 => ?_)
  · by_cases hn : l = []
    · subst hn
      exact a_append0 (rest := []) rfl rfl rfl rfl (by repeat (first | exact List.Mem.head _ | apply List.Mem.tail)) ⟨rfl, rfl, Nat.le_refl _, Nat.zero_le _⟩
    · obtain ⟨bA, oA, rfl, hE⟩ := at_flat hA hn
      exact a_append (xs := []) (rest := []) rfl rfl rfl rfl (news_ext hE) (by repeat (first | exact List.Mem.head _ | apply List.Mem.tail)) ⟨rfl, rfl, Nat.le_refl _, Nat.zero_le _⟩ (lk_flat_len l) (lk_one l) rfl (Nat.zero_add _) (by omega) (by unfold maxLen; omega)
  repeat (first | refine e_val rfl rfl rfl rfl (by first | exact v_load rfl (by repeat (first | exact List.Mem.head _ | apply List.Mem.tail)) rfl (by rfl) ) ?_ | refine e_new rfl rfl rfl rfl (by first | exact n_buildSlice rfl rfl rfl rfl (by rfl) ) (fun _ => ?_) )
  refine e_app (xs := (l.map lkE).flatten ++ lkE x) (n := l.length + 1) (e := 47) rfl rfl rfl rfl rfl (by decide) (by rw [List.length_append, lk_flat_len]; simp only [lkE, List.length_cons, List.length_nil]; omega) (by unfold maxLen; omega) rfl
    (a_append rfl rfl rfl rfl (news_own (by repeat (first | exact List.Mem.head _ | apply List.Mem.tail))) (by repeat (first | exact List.Mem.head _ | apply List.Mem.tail)) hg3 rfl (allOne_mem rfl) rfl rfl (by omega) (by unfold maxLen; omega)) (fun b5 cap5 rest5 hg5 => ?_)
  repeat (first | refine l_val rfl rfl (by first | exact pureEval_ok rfl | exact v_load rfl (by repeat (first | exact List.Mem.head _ | apply List.Mem.tail)) rfl (by rfl) ) ?_ | refine c_region ?_ | refine c_seq ?_ | refine x_then ?_ | refine e_val rfl rfl rfl rfl (by first | exact v_build rfl rfl (by rfl) ) ?_ | refine e_new rfl rfl rfl rfl (by first | exact n_alloc rfl (by first | exact aggL ) ) (fun _ => ?_) | refine e_store rfl rfl rfl rfl rfl rfl rfl rfl (by first | rfl ) rfl rfl (by first | (simp; done) ) (by first | exact splice_lit (by rfl) ) ?_ | refine e_nil rfl ?_ )
  by_cases h200 : (l.length : Int) ≤ 200
  · have hl' : (l ++ [x]).length = l.length + 1 := by simp
    have hrow : (l.map lkE).flatten ++ lkE x ++ rest5 = ((l ++ [x]).map lkE).flatten ++ rest5 := by rw [lk_snoc]
    by_cases hc : chk n l = 0
    · obtain ⟨c1, c2, c3, hF⟩ := chk_fine hc
      repeat (first | refine l_val rfl rfl (by first | exact v_load rfl (by repeat (first | exact List.Mem.head _ | apply List.Mem.tail)) rfl (by rfl) ) ?_ | refine l_dec_f rfl rfl rfl rfl rfl (by first | omega | exact fun h => h rfl ) ?_ )
      refine r_call rfl rfl rfl (fun W hW => hc ▸ check_calls n A cap l W (by omega) (hA.sat hW)) ?_
      repeat (first | refine l_val rfl rfl (by first | exact pureEval_ok rfl | exact v_load rfl (by repeat (first | exact List.Mem.head _ | apply List.Mem.tail)) rfl (by rfl) ) ?_ | refine l_dec_f rfl rfl rfl rfl rfl (by first | omega | exact fun h => h rfl ) ?_ )
      refine r_call rfl rfl rfl (fun W hW => hl' ▸ check_calls n (some ⟨b5, 0, none⟩) cap5 (l ++ [x]) W (by omega) (hW.rows (b := b5) (by repeat (first | exact List.Mem.head _ | apply List.Mem.tail)) hrow (lk_len _))) ?_
      by_cases hc' : chk n (l ++ [x]) = 0
      · rw [hc']
        repeat (first | refine l_val rfl rfl (by first | exact pureEval_ok rfl | exact v_load rfl (by repeat (first | exact List.Mem.head _ | apply List.Mem.tail)) rfl (by rfl) ) ?_ | refine l_nil ?_ | refine c_region ?_ | refine c_seq ?_ | refine x_then ?_ | refine c_false rfl ?_ | refine c_skip ?_ )
        cases hU : ear n (l ++ [x]) with
        | none =>
          cases he : ear n l with
          | none =>
            refine r_call rfl rfl rfl (fun W hW => hc ▸ earQ_none (Ear_calls n A cap l W (by omega) (hA.sat hW)) he) ?_
            repeat (first | refine l_val rfl rfl (by first | exact pureEval_ok rfl | exact v_load rfl (by repeat (first | exact List.Mem.head _ | apply List.Mem.tail)) rfl (by rfl) ) ?_ | refine l_nil ?_ | refine c_region ?_ | refine c_seq ?_ | refine x_then ?_ )
            refine r_call rfl rfl rfl (fun W hW => hc' ▸ hl' ▸ earQ_none (Ear_calls n (some ⟨b5, 0, none⟩) cap5 (l ++ [x]) W (by omega) (hW.rows (b := b5) (by repeat (first | exact List.Mem.head _ | apply List.Mem.tail)) hrow (lk_len _))) hU) ?_
            repeat (first | refine l_val rfl rfl (by first | exact pureEval_ok rfl ) ?_ | refine l_nil ?_ | refine c_region ?_ | refine c_seq ?_ | refine x_then ?_ | refine l_skip rfl rfl ?_ | refine c_true rfl ?_ | refine c_false rfl ?_ | refine c_skip ?_ | refine c_ret ?_ | refine x_then_ret ?_ )
            exact x_ret rfl rfl (by repeat (first | exact Res.nil | (apply Res.tmp; rfl) | (apply Res.cell; rfl; exact (by repeat (first | exact List.Mem.head _ | apply List.Mem.tail)); rfl; rfl))) rfl (fun W hW => ⟨by first | rfl | (simp; done) | (simp_all; done), hW.below⟩)
          | some L =>
            refine r_call1 (ι := Nat) (bk := fun b => b) rfl rfl rfl (fun W hW => earQ_some (Ear_calls n A cap l W (by omega) (hA.sat hW)) he) (fun b1 => ?_)
            repeat (first | refine l_val rfl rfl (by first | exact pureEval_ok rfl | exact v_load rfl (by repeat (first | exact List.Mem.head _ | apply List.Mem.tail)) rfl (by rfl) ) ?_ | refine l_nil ?_ | refine c_region ?_ | refine c_seq ?_ | refine x_then ?_ )
            refine r_call rfl rfl rfl (fun W hW => hc' ▸ hl' ▸ earQ_none (Ear_calls n (some ⟨b5, 0, none⟩) cap5 (l ++ [x]) W (by omega) (hW.rows (b := b5) (by repeat (first | exact List.Mem.head _ | apply List.Mem.tail)) hrow (lk_len _))) hU) ?_
            repeat (first | refine l_val rfl rfl (by first | exact pureEval_ok rfl ) ?_ | refine l_nil ?_ | refine c_region ?_ | refine c_seq ?_ | refine x_then ?_ | refine l_skip rfl rfl ?_ | refine c_true rfl ?_ | refine c_false rfl ?_ | refine c_skip ?_ | refine c_ret ?_ | refine x_then_ret ?_ )
            exact x_ret rfl rfl (by repeat (first | exact Res.nil | (apply Res.tmp; rfl) | (apply Res.cell; rfl; exact (by repeat (first | exact List.Mem.head _ | apply List.Mem.tail)); rfl; rfl))) rfl (fun W hW => ⟨by first | rfl | (simp; done) | (simp_all; done), hW.below⟩)
        | some U =>
          obtain ⟨L, he, hLU⟩ := ear_tighter hc hU
          refine r_call1 (ι := Nat) (bk := fun b => b) rfl rfl rfl (fun W hW => earQ_some (Ear_calls n A cap l W (by omega) (hA.sat hW)) he) (fun b1 => ?_)
          repeat (first | refine l_val rfl rfl (by first | exact pureEval_ok rfl | exact v_load rfl (by repeat (first | exact List.Mem.head _ | apply List.Mem.tail)) rfl (by rfl) ) ?_ | refine l_nil ?_ | refine c_region ?_ | refine c_seq ?_ | refine x_then ?_ )
          refine r_call1 (ι := Nat) (bk := fun b => b) rfl rfl rfl (fun W hW => hl' ▸ earQ_some (Ear_calls n (some ⟨b5, 0, none⟩) cap5 (l ++ [x]) W (by omega) (hW.rows (b := b5) (by repeat (first | exact List.Mem.head _ | apply List.Mem.tail)) hrow (lk_len _))) hU) (fun b2 => ?_)
          repeat (first | refine l_val rfl rfl (by first | exact pureEval_ok rfl | exact v_load rfl (by repeat (first | exact List.Mem.head _ | apply List.Mem.tail)) rfl (by rfl) ) ?_ | refine l_nil ?_ | refine c_region ?_ | refine c_seq ?_ | refine x_then ?_ | refine c_false rfl ?_ | refine c_dec_f rfl (by first | omega | exact fun h => h rfl ) ?_ | refine c_block ?_ | refine c_skip ?_ | refine l_dec_f rfl rfl rfl rfl rfl (by first | omega ) ?_ )
          rename_i y1 y2 y3 y4 y5
          refine c_loop (ι := Nat) (fun k => k ≤ n.toNat) (fun k => [(2, .int .u8 p), (3, .int .u8 q), (4, .pointer (some ⟨y1, 0, none⟩)), (9, .pointer (some ⟨y5, 0, none⟩)), (10, .slice (some ⟨b1, 0, none⟩) n.toNat n.toNat), (13, .slice (some ⟨b2, 0, none⟩) n.toNat n.toNat), (91, .int .i64 n.toNat), (92, .int .i64 k)])
            (fun _ => [(b2, .cells ⟨ivec n.toNat U⟩ 3 (0, 0)), (b1, .cells ⟨ivec n.toNat L⟩ 3 (0, 0)), (y1, .cells ⟨netCells n A l.length cap⟩ 24 (0, 0)), (b5, .cells ⟨(l.map lkE).flatten ++ lkE x ++ rest5⟩ 47 (0, 0)), (y5, .cells ⟨netCells n (some ⟨b5, 0, none⟩) (l.length + 1) cap5⟩ 24 (0, 0))]) (fun k => n.toNat - k) 0 (by omega) (by repeat (first | exact EnvSub.nil | refine EnvSub.cons rfl (by first | rfl | (congr 1; done) | (exact congrArg (Value.int _) (by omega)) | (simp; done)) ?_)) (by repeat (first | exact MSub.nil | refine MSub.keep (by first | rfl | assumption) ?_ | refine MSub.drop ?_ | exact MSub.refl _)) ?_
          intro k hk
          by_cases hlt : k < n.toNat
          · have hle := hLU k hlt
            repeat (first | refine l_val rfl rfl (by first | exact v_add rfl rfl (by omega) (by omega) | exact pureEval_ok rfl ) ?_ | refine l_nil ?_ | refine c_region ?_ | refine c_seq ?_ | refine x_then ?_ | refine c_dec_t rfl (by first | omega ) ?_ | refine c_dec_f rfl (by first | omega | exact fun h => h rfl ) ?_ | refine c_block ?_ | refine c_skip ?_ | refine x_block ?_ | refine c_reads rfl (by decide +kernel) ?_ | refine q_val rfl rfl (by first | exact pureEval_ok rfl | exact v_index rfl rfl rfl rfl (by omega) (by omega) (by with_reducible first | exact idx1 _  ) | exact v_load_at rfl (by repeat (first | exact List.Mem.head _ | apply List.Mem.tail)) rfl rfl (by first | exact ivec_get (by omega) ) ) ?_ | refine q_nil ?_ )
            exact x_back (k + 1) hlt (by omega) (by repeat (first | exact EnvSub.nil | refine EnvSub.cons rfl (by first | rfl | (congr 1; done) | (exact congrArg (Value.int _) (by omega)) | (simp; done)) ?_)) (by repeat (first | exact MSub.nil | refine MSub.keep (by first | rfl | assumption) ?_ | refine MSub.drop ?_ | exact MSub.refl _))
          · have hwp : IntKind.i64.wrap p = p := wrap_i64 (by omega) (by omega)
            have hwq : IntKind.i64.wrap q = q := wrap_i64 (by omega) (by omega)
            have p1 := Int.emod_nonneg (IntKind.i64.wrap p) (show n ≠ 0 by omega)
            have p2 := Int.emod_lt_of_pos (IntKind.i64.wrap p) (show 0 < n by omega)
            have q1 := Int.emod_nonneg (IntKind.i64.wrap q) (show n ≠ 0 by omega)
            have q2 := Int.emod_lt_of_pos (IntKind.i64.wrap q) (show 0 < n by omega)
            have hpt : ptsIn n (IntKind.i64.wrap p % n) (IntKind.i64.wrap q % n) := ⟨p1, p2, q1, q2⟩
            have hbt := bnd_tighter hc hU hpt
            obtain ⟨d1, hd1⟩ : ∃ d, (bndp n l (IntKind.i64.wrap p % n)).1 (IntKind.i64.wrap q % n).toNat = d := ⟨_, rfl⟩
            obtain ⟨m1, hm1⟩ : ∃ d, (bndp n l (IntKind.i64.wrap p % n)).2 (IntKind.i64.wrap q % n).toNat = d := ⟨_, rfl⟩
            obtain ⟨d2, hd2⟩ : ∃ d, (bndp n (l ++ [x]) (IntKind.i64.wrap p % n)).1 (IntKind.i64.wrap q % n).toNat = d := ⟨_, rfl⟩
            obtain ⟨m2, hm2⟩ : ∃ d, (bndp n (l ++ [x]) (IntKind.i64.wrap p % n)).2 (IntKind.i64.wrap q % n).toNat = d := ⟨_, rfl⟩
            have e1 := bnd_some hc hpt he
            have e2 := bnd_some hc' hpt hU
            rw [hd1, hm1] at e1
            rw [hd2, hm2] at e2
            rw [hd1, hm1, hd2, hm2] at hbt
            repeat (first | refine l_val rfl rfl (by first | exact pureEval_ok rfl | exact v_load rfl (by repeat (first | exact List.Mem.head _ | apply List.Mem.tail)) rfl (by rfl) ) ?_ | refine l_nil ?_ | refine c_region ?_ | refine c_seq ?_ | refine x_then ?_ | refine c_dec_f rfl (by first | omega ) ?_ | refine c_exit ?_ | refine x_then_exit ?_ | refine x_block_same ?_ | refine c_reads rfl (by decide +kernel) ?_ | refine q_val rfl rfl (by first | exact pureEval_ok rfl | exact v_load rfl (by repeat (first | exact List.Mem.head _ | apply List.Mem.tail)) rfl (by rfl) | exact v_rem rfl rfl (by omega) (by omega) ) ?_ | refine q_nil ?_ )
            refine r_call rfl rfl rfl (fun W hW => e1 ▸ Bound_calls n _ _ A cap l W (by omega) (hA.sat hW)) ?_
            repeat (first | refine l_val rfl rfl (by first | exact pureEval_ok rfl | exact v_load rfl (by repeat (first | exact List.Mem.head _ | apply List.Mem.tail)) rfl (by rfl) ) ?_ | refine l_nil ?_ | refine c_region ?_ | refine c_seq ?_ | refine x_then ?_ )
            refine r_call rfl rfl rfl (fun W hW => e2 ▸ hl' ▸ Bound_calls n _ _ (some ⟨b5, 0, none⟩) cap5 (l ++ [x]) W (by omega) (hW.rows (b := b5) (by repeat (first | exact List.Mem.head _ | apply List.Mem.tail)) hrow (lk_len _))) ?_
            cases m1 with
            | false =>
              repeat (first | refine l_val rfl rfl (by first | exact pureEval_ok rfl ) ?_ | refine l_nil ?_ | refine c_region ?_ | refine c_seq ?_ | refine x_then ?_ | refine l_skip rfl rfl ?_ | refine c_ret ?_ )
              exact x_ret rfl rfl (by repeat (first | exact Res.nil | (apply Res.tmp; rfl) | (apply Res.cell; rfl; exact (by repeat (first | exact List.Mem.head _ | apply List.Mem.tail)); rfl; rfl))) rfl (fun W hW => ⟨by first | rfl | (simp; done) | (simp_all; done), hW.below⟩)
            | true =>
              obtain ⟨rfl, hle⟩ := hbt rfl
              repeat (first | refine l_val rfl rfl (by first | exact pureEval_ok rfl ) ?_ | refine l_nil ?_ | refine c_region ?_ | refine c_seq ?_ | refine x_then ?_ | refine c_ret ?_ )
              exact x_ret rfl rfl (by repeat (first | exact Res.nil | (apply Res.tmp; rfl) | (apply Res.cell; rfl; exact (by repeat (first | exact List.Mem.head _ | apply List.Mem.tail)); rfl; rfl))) rfl (fun W hW => ⟨by first | rfl | (simp; done) | (simp_all; done), hW.below⟩)
      · repeat (first | refine l_val rfl rfl (by first | exact pureEval_ok rfl ) ?_ | refine l_nil ?_ | refine c_region ?_ | refine c_seq ?_ | refine x_then ?_ | refine c_dec_t rfl (by first | omega ) ?_ | refine c_ret ?_ | refine x_then_ret ?_ )
        exact x_ret rfl rfl (by repeat (first | exact Res.nil | (apply Res.tmp; rfl) | (apply Res.cell; rfl; exact (by repeat (first | exact List.Mem.head _ | apply List.Mem.tail)); rfl; rfl))) rfl (fun W hW => ⟨by first | rfl | (simp; done) | (simp_all; done), hW.below⟩)
    · repeat (first | refine l_val rfl rfl (by first | exact v_load rfl (by repeat (first | exact List.Mem.head _ | apply List.Mem.tail)) rfl (by rfl) ) ?_ | refine l_dec_f rfl rfl rfl rfl rfl (by first | omega ) ?_ )
      refine r_call rfl rfl rfl (fun W hW => check_calls n A cap l W (by omega) (hA.sat hW)) ?_
      repeat (first | refine l_val rfl rfl (by first | exact pureEval_ok rfl | exact v_load rfl (by repeat (first | exact List.Mem.head _ | apply List.Mem.tail)) rfl (by rfl) ) ?_ | refine l_nil ?_ | refine c_region ?_ | refine c_seq ?_ | refine x_then ?_ | refine l_skip rfl rfl ?_ | refine c_true rfl ?_ | refine c_ret ?_ | refine x_then_ret ?_ | refine l_dec_t rfl rfl rfl rfl rfl (by first | omega ) ?_ )
      exact x_ret rfl rfl (by repeat (first | exact Res.nil | (apply Res.tmp; rfl) | (apply Res.cell; rfl; exact (by repeat (first | exact List.Mem.head _ | apply List.Mem.tail)); rfl; rfl))) rfl (fun W hW => ⟨by first | rfl | (simp; done) | (simp_all; done), hW.below⟩)
  · repeat (first | refine l_val rfl rfl (by first | exact pureEval_ok rfl | exact v_load rfl (by repeat (first | exact List.Mem.head _ | apply List.Mem.tail)) rfl (by rfl) ) ?_ | refine l_nil ?_ | refine c_region ?_ | refine c_seq ?_ | refine x_then ?_ | refine l_skip rfl rfl ?_ | refine c_true rfl ?_ | refine c_ret ?_ | refine x_then_ret ?_ | refine l_dec_t rfl rfl rfl rfl rfl (by first | omega ) ?_ )
    exact x_ret rfl rfl (by repeat (first | exact Res.nil | (apply Res.tmp; rfl) | (apply Res.cell; rfl; exact (by repeat (first | exact List.Mem.head _ | apply List.Mem.tail)); rfl; rfl))) rfl (fun W hW => ⟨by first | rfl | (simp; done) | (simp_all; done), hW.below⟩)
end R22
end Go.Proofs
