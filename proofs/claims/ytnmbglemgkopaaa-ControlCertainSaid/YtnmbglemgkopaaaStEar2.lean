/- Earliest. -/
import Derived.Test.YtnmbglemgkopaaaStEar
import Derived.Test.YtnmbglemgkopaaaEng11
set_option linter.unusedSectionVars false
set_option linter.unusedVariables false
set_option linter.unusedSimpArgs false
namespace Go.Proofs
open Go.RowKit Go.Kin Go.Kin.St
namespace R22

def rsEd (s : RS) : Ed := ⟨s.a.toNat, s.b.toNat, s.w⟩
theorem raw_edges (l : List Lk) : (raw l).map rsEd = edges l := by
  have : ∀ i, (rawFrom i l).map rsEd = edges l := by
    induction l with
    | nil => intro i; rfl
    | cons x l ih => intro i; simp only [rawFrom, List.map_cons, ih, edges]; rfl
  exact this 0
theorem edges_get {l : List Lk} {k : Nat} {s : RS} (h : (raw l)[k]? = some s) : (edges l)[k]? = some (rsEd s) := by
  rw [← raw_edges, List.getElem?_map, h]; rfl

/-- the steps' iterator, in a round -/
theorem it_ofD {w W W1 : World} {D : Nat → Prop} {J : (Nat → Prop) → World → Prop} {mem : List (Nat × Obj)} {b : Nat} {n : Int} {A : Option Addr} {cap : Nat} {l : List Lk} (hl : l.length ≤ 1000) (hA : At w A 4 (l.map lkE)) (hAD : ∀ a, A = some a → l ≠ [] → D a.block) (hF : Fine n l) (hn : n ≤ 64)
    (hm : SatW w D J mem W) (hb : (b, Obj.cells ⟨netCells n A l.length cap⟩ 61 (0, 0)) ∈ mem) (hs : Same (fun _ => True) W W1) : It Try.prog 78 [.pointer (some ⟨b, 0, none⟩)] rsE (raw l) (fun k => D k ∨ k = b) W1 := by
  have hlt := hm.lt hb
  simp only at hlt
  have hsz := hs.size
  refine steps_it _ b n A cap l W1 hl (hs.obj (hm.own _ hb).2 trivial) ((hA.satD (fun a ha hne => hAD a ha (fun e => hne (by rw [e]; rfl))) hm).later (hs.below (Nat.le_refl _) fun _ _ => trivial)) hF hn ?_ (.inr rfl) ?_
  · rintro k (hk | rfl)
    · have := hm.same.size; have := hm.dom k hk; omega
    · omega
  · exact fun a ha hne => .inl (hAD a ha hne)

theorem at_base {w : World} {A : Option Addr} {l : List Lk} (hA : At w A 4 (l.map lkE)) (a : Addr) (ha : A = some a) (hne : l ≠ []) : base w a.block := by
  obtain ⟨x, l', rfl⟩ := List.exists_cons_of_ne_nil hne
  obtain ⟨b', o, h1, h2⟩ := hA 0 (lkE x) rfl
  rw [ha] at h1
  cases h1
  exact lt_of_cell (h2 0 _ rfl)

theorem raises_within {n : Int} {l : List Lk} {K : Int} {t : Nat → Int} (hF : Fine n l) (hK : Within K t) (j : Nat) : Within (K + 1099511627776 * j) (((edges l).take j).foldl raise t) := by
  induction j with
  | zero => simpa using hK
  | succ j ih =>
    by_cases hj : j < (edges l).length
    · rw [fold_take _ _ _ hj]
      have hw := hF.weights _ (List.getElem_mem hj)
      exact (raise_within ih hw.1 hw.2).mono (by omega)
    · rw [List.take_of_length_le (by omega)] at ih ⊢
      exact ih.mono (by omega)
theorem passes_within2 {n : Int} {l : List Lk} (hF : Fine n l) (hl : l.length ≤ 256) (k : Nat) : Within (562949953421312 * k) (passes (edges l) k (fun _ => 0)) := by
  induction k with
  | zero => exact Within.zero (by omega)
  | succ k ih =>
    have h := raises_within hF ih (edges l).length
    rw [List.take_length] at h
    have := edges_len l
    exact h.mono (by omega)
theorem raise_eq (t : Nat → Int) (s : RS) : iset t s.a.toNat (max (t s.a.toNat) (t s.b.toNat - s.w)) = raise t (rsEd s) := rfl

theorem Ear_calls (n : Int) (A : Option Addr) (cap : Nat) (l : List Lk) (w : World) (hl : l.length ≤ 1000) (hA : At w A 4 (l.map lkE)) :
    Calls Try.prog 31 ⟨[.agg ⟨netCells n A l.length cap⟩]⟩ w (EarQ n l w) := by
  refine fun_enter Try.func31 rfl Try.ntmps31 rfl rfl (satW_nil w) ?_
  repeat (first | refine l_val rfl rfl (by first | exact pureEval_ok rfl | exact v_load rfl (by repeat (first | exact List.Mem.head _ | apply List.Mem.tail)) rfl (by rfl)  | fail) ?_ | refine l_nil ?_ | refine c_region ?_ | refine c_seq ?_ | refine x_then ?_ | refine r_box rfl rfl rfl rfl (fun _ => ?_) | refine r_alloc rfl rfl rfl (by first | exact aggL  | fail) (fun _ => ?_) | refine c_scope ?_  | fail)
  refine r_call rfl rfl rfl (fun W hW => check_calls n A cap l W hl (hA.sat hW)) ?_
  repeat' (first | refine l_val rfl rfl (by first | exact pureEval_ok rfl | exact v_load rfl (by repeat (first | exact List.Mem.head _ | apply List.Mem.tail)) rfl (by rfl)  | fail) ?_ | refine l_nil ?_ | refine c_region ?_ | refine c_seq ?_ | refine x_then ?_ | refine r_store rfl rfl rfl rfl rfl rfl rfl (by repeat (first | exact Upd.head | apply Upd.tail)) (by rfl) ?_ | refine c_skip ?_ | refine c_ret ?_ | refine x_then_ret ?_ | refine x_scope_ret ?_ | refine c_dec rfl (fun _ => ?_) (fun _ => ?_)  | fail)
  · rename_i b1 b2 h1
    exact x_ret rfl rfl (by repeat (first | exact Res.nil | (apply Res.tmp; rfl) | (apply Res.cell; rfl; exact (by repeat (first | exact List.Mem.head _ | apply List.Mem.tail)); rfl; rfl))) rfl (fun W hW => .inl ⟨ear_bad h1, rfl, hW.below⟩)
  · rename_i b1 b2 h0
    have h0 := Decidable.not_not.1 h0
    obtain ⟨c1, c2, c3, hF⟩ := chk_fine h0
    obtain ⟨N, rfl⟩ : ∃ N : Nat, n = N := ⟨n.toNat, by omega⟩
    repeat (first | refine l_val rfl rfl (by first | exact v_add rfl rfl (by omega) (by omega) | exact pureEval_ok rfl | exact v_load rfl (by repeat (first | exact List.Mem.head _ | apply List.Mem.tail)) rfl (by rfl)  | fail) ?_ | refine l_nil ?_ | refine c_region ?_ | refine c_seq ?_ | refine x_then ?_ | refine r_store rfl rfl rfl rfl rfl rfl rfl (by repeat (first | exact Upd.head | apply Upd.tail)) (by rfl) ?_ | refine r_make rfl rfl rfl rfl rfl rfl (by first | rfl  | fail) (by omega) (by omega) rfl rfl (by first | exact flat_int  | fail) (fun _ => ?_) | refine c_block ?_ | refine c_label ?_  | fail)
    rename_i b3
    refine c_loopD (ι := Nat × List Nat) (fun p => p.1 ≤ N + 1 ∧ ∀ j, j < p.1 → ¬ Sol (edges l) (passes (edges l) j (fun _ => 0))) (fun p => p.2.map Kin.mark) (fun _ => noJ)
      (fun p => [(1, .pointer (some ⟨b1, 0, none⟩)), (2, .pointer (some ⟨b2, 0, none⟩)), (19, .int .i64 (N + 1)), (20, .int .i64 p.1)])
      (fun p => (b3, .cells ⟨ivec N (passes (edges l) p.1 (fun _ => 0))⟩ 3 (0, 0)) :: (b2, .cells ⟨[.slice (some ⟨b3, 0, none⟩) N N]⟩ 37 (0, 0)) :: (b1, .cells ⟨netCells N A l.length cap⟩ 61 (0, 0)) :: p.2.map opn)
      (fun p => N + 1 - p.1) (0, []) ⟨by omega, fun j hj => by omega⟩ rfl rfl (by repeat (first | exact EnvSub.nil | refine EnvSub.cons rfl (by first | rfl | (congr 1; done) | (exact congrArg (Value.int _) (by omega)) | (simp; done)) ?_)) (by repeat (first | exact MSub.nil | refine MSub.keep (by first | rfl | assumption) ?_ | refine MSub.drop ?_ | exact MSub.refl _)) ?_
    rintro ⟨q, Ds⟩ ⟨hk, hT⟩
    simp only at hk hT ⊢
    by_cases hlt : q ≤ N
    · obtain ⟨t, ht⟩ : ∃ t, passes (edges l) q (fun _ => 0) = t := ⟨_, rfl⟩
      have hw : Within (562949953421312 * q) t := by rw [← ht]; exact passes_within2 hF c3 q
      rw [ht]
      repeat (first | refine l_val rfl rfl (by first | exact pureEval_ok rfl | exact v_load rfl (by repeat (first | exact List.Mem.head _ | apply List.Mem.tail)) rfl (by rfl)  | fail) ?_ | refine l_nil ?_ | refine c_region ?_ | refine c_seq ?_ | refine x_then ?_ | refine c_dec_t rfl (by first | omega  | fail) ?_ | refine c_block ?_ | refine c_skip ?_  | fail)
      refine r_call1 (ι := Nat) (bk := fun b => b) rfl rfl rfl (fun W hW => steps_calls N A l.length cap W) (fun b5 => ?_)
      repeat (first | refine l_nil ?_ | refine x_then ?_ | refine c_block ?_  | fail)
      refine c_range rsE (raw l) (Rd w b5) [(b5, .cells ⟨netCells N A l.length cap⟩ 61 (0, 0))] (ι := Option Nat) (fun o => o.getD 0) (fun o => ∃ k, o = some k ∧ Sol ((edges l).take k) t)
        (fun o => match o with
          | some _ => (b3, .cells ⟨ivec N t⟩ 3 (0, 0)) :: (b2, .cells ⟨[.slice (some ⟨b3, 0, none⟩) N N]⟩ 37 (0, 0)) :: (b1, .cells ⟨netCells N A l.length cap⟩ 61 (0, 0)) :: Ds.map opn
          | none => (b3, .cells ⟨ivec N (pass (edges l) t)⟩ 3 (0, 0)) :: (b2, .cells ⟨[.slice (some ⟨b3, 0, none⟩) N N]⟩ 37 (0, 0)) :: (b1, .cells ⟨netCells N A l.length cap⟩ 61 (0, 0)) :: Ds.map opn)
        (fun c o => c = .exit 1 ∧ o = none ∧ ¬ Sol (edges l) t) (some 0) rfl (fun W W1 hW hs => it_of hl hA hF c2 hW (by repeat (first | exact List.Mem.head _ | apply List.Mem.tail)) hs) (fun b hb => hb.imp id fun e => by simp [e]) (fun _ _ => rfl) (by decide) rfl ⟨0, rfl, fun e he => by cases he⟩ (by repeat (first | exact MSub.nil | refine MSub.keep (by first | rfl | assumption) ?_ | refine MSub.drop ?_ | exact MSub.refl _))
        (env' := [(1, .pointer (some ⟨b1, 0, none⟩)), (2, .pointer (some ⟨b2, 0, none⟩))]) (by repeat (first | exact EnvSub.nil | refine EnvSub.cons rfl (by first | rfl | (congr 1; done) | (exact congrArg (Value.int _) (by omega)) | (simp; done)) ?_)) ?_ ?_ ?_
      · rintro _ ⟨k, rfl, hI⟩ hk m lp W1 hW1 hDl hol
        simp only [Option.getD_some] at hk ⊢
        obtain ⟨s, hs⟩ : ∃ s, (raw l)[k] = s := ⟨_, rfl⟩
        have hs2 : (raw l)[k]? = some s := by rw [List.getElem?_eq_getElem hk, hs]
        rw [hs]
        have hf := raw_fine hF hs2
        have hw1 := hw s.a.toNat
        have hw2 := hw s.b.toNat
        repeat (first | refine l_nil ?_ | refine c_region ?_ | refine r_alloc rfl rfl rfl (by first | exact aggL  | fail) (fun _ => ?_) | refine r_store rfl rfl rfl rfl rfl rfl rfl (by repeat (first | exact Upd.head | apply Upd.tail)) (by rfl) ?_  | fail)
        refine x_body hW1 hDl hol (fun n2 W2 r hW2 hr2 ho => ?_)
        repeat' (first | refine l_val rfl rfl (by first | exact v_load rfl (by repeat (first | exact List.Mem.head _ | apply List.Mem.tail)) rfl (by rfl)  | fail) ?_ | refine c_region ?_ | refine c_seq ?_ | refine x_then ?_ | refine c_block ?_ | refine c_skip ?_ | refine x_block ?_ | refine c_reads rfl (by decide +kernel) ?_ | refine q_val rfl rfl (by first | exact v_sub rfl rfl (by omega) (by omega) | exact pureEval_ok rfl | exact v_load rfl (by repeat (first | exact List.Mem.head _ | apply List.Mem.tail)) rfl (by rfl) | exact v_index rfl rfl rfl rfl (by omega) (by omega) (by with_reducible first | exact idx5 _   | fail) | exact v_load_at rfl (by repeat (first | exact List.Mem.head _ | apply List.Mem.tail)) rfl rfl (by first | exact ivec_get (by omega)  | fail)  | fail) ?_ | refine q_nil ?_ | refine c_dec rfl (fun _ => ?_) (fun _ => ?_)  | fail)
        · rename_i hno
          have hbad : ¬ Sol (edges l) t := fun h => by
            have h1 := h (rsEd s) (List.mem_of_getElem? (edges_get hs2))
            simp only [rsEd] at h1; omega
          have hA2 := hA.sat hW2
          have hAD : ∀ a, A = some a → l ≠ [] → outside _ W2 a.block := fun a ha hne => hW2.within (at_base hA a ha hne)
          refine r_call1 (ι := Nat) (bk := fun b => b) rfl rfl rfl (fun W hW => steps_calls N A l.length cap W) (fun b6 => ?_)
          repeat (first | refine l_nil ?_ | refine x_then ?_ | refine c_block ?_  | fail)
          refine c_rangeN rsE (raw l) _ [(b6, .cells ⟨netCells N A l.length cap⟩ 61 (0, 0))] (ι := Nat) (fun j => j) (fun j => j ≤ (raw l).length)
            (fun j => (b3, .cells ⟨ivec N (((edges l).take j).foldl raise t)⟩ 3 (0, 0)) :: (b2, .cells ⟨[.slice (some ⟨b3, 0, none⟩) N N]⟩ 37 (0, 0)) :: (b1, .cells ⟨netCells N A l.length cap⟩ 61 (0, 0)) :: Ds.map opn)
            (fun _ _ => False) 0 hr2 ho rfl (fun W W1 hW hs => it_ofD hl hA2 hAD hF c2 hW (by repeat (first | exact List.Mem.head _ | apply List.Mem.tail)) hs) (fun b hb => hb.imp id fun e => by simp [e]) (fun _ _ => rfl) (by decide) rfl (Nat.zero_le _) (by repeat (first | exact MSub.nil | refine MSub.keep (by first | rfl | assumption) ?_ | refine MSub.drop ?_ | exact MSub.refl _))
            (env' := [(2, .pointer (some ⟨b2, 0, none⟩))]) (by repeat (first | exact EnvSub.nil | refine EnvSub.cons rfl (by first | rfl | (congr 1; done) | (exact congrArg (Value.int _) (by omega)) | (simp; done)) ?_)) ?_ ?_ ?_
          · intro j _ hj m3 lp3 W3 hW3 hDl3 hol3
            obtain ⟨s', hs'⟩ : ∃ s, (raw l)[j] = s := ⟨_, rfl⟩
            have hs3 : (raw l)[j]? = some s' := by rw [List.getElem?_eq_getElem hj, hs']
            rw [hs']
            have hf' := raw_fine hF hs3
            obtain ⟨u, hu⟩ : ∃ u, ((edges l).take j).foldl raise t = u := ⟨_, rfl⟩
            have hwu : Within (562949953421312 * q + 1099511627776 * j) u := by rw [← hu]; exact raises_within hF hw j
            have hu2 : ((edges l).take (j + 1)).foldl raise t = iset u s'.a.toNat (max (u s'.a.toNat) (u s'.b.toNat - s'.w)) := by
              rw [List.take_add_one, edges_get hs3, List.foldl_append, hu]; rfl
            have hw3 := hwu s'.a.toNat
            have hw4 := hwu s'.b.toNat
            have hj2 : j ≤ 512 := by have := raw_len l; omega
            rw [hu] at hW3 hol3 ⊢
            repeat (first | refine l_nil ?_ | refine c_region ?_ | refine r_alloc rfl rfl rfl (by first | exact aggL  | fail) (fun _ => ?_) | refine r_store rfl rfl rfl rfl rfl rfl rfl (by repeat (first | exact Upd.head | apply Upd.tail)) (by rfl) ?_  | fail)
            refine x_body hW3 hDl3 hol3 (fun n4 W4 r4 hW4 hr4 ho4 => ?_)
            repeat (first | refine c_block ?_ | refine x_block ?_ | refine c_cut rfl (by decide +kernel) ?_ | refine h_val rfl rfl (by first | exact v_sub rfl rfl (by omega) (by omega) | exact pureEval_ok rfl | exact v_load rfl (by repeat (first | exact List.Mem.head _ | apply List.Mem.tail)) rfl (by rfl) | exact v_index rfl rfl rfl rfl (by omega) (by omega) (by with_reducible first | exact idx5 _   | fail) | exact v_load_at rfl (by repeat (first | exact List.Mem.head _ | apply List.Mem.tail)) rfl rfl (by first | exact ivec_get (by omega)  | fail)  | fail) ?_ | refine h_do1 rfl (by decide +kernel) (by decide +kernel) rfl rfl (by first | exact d_store_at rfl rfl rfl rfl rfl (by repeat (first | exact Upd.head | apply Upd.tail)) (by first | (rw [ivec_length]; omega)  | fail) (by first | exact ivec_set  | fail)  | fail) ?_  | fail)
            refine x_next (j + 1) rfl hj ?_
            rw [hu2]
            exact (by repeat (first | exact MSub.nil | refine MSub.keep (by first | rfl | assumption) ?_ | refine MSub.drop ?_ | exact MSub.refl _))
          · intro j hj _
            subst hj
            have hlen : (raw l).length = (edges l).length := by rw [← raw_edges, List.length_map]
            rw [hlen, List.take_length]
            repeat (first | refine x_then ?_ | refine c_exit ?_ | refine x_block ?_ | refine x_block_other rfl ?_  | fail)
            exact x_leave none ⟨rfl, rfl, hbad⟩ (by repeat (first | exact MSub.nil | refine MSub.keep (by first | rfl | assumption) ?_ | refine MSub.drop ?_ | exact MSub.refl _))
          · intro c i h
            exact h.elim
        · rename_i hyes
          refine x_next (some (k + 1)) rfl ⟨_, rfl, ?_⟩ (by repeat (first | exact MSub.nil | refine MSub.keep (by first | rfl | assumption) ?_ | refine MSub.drop ?_ | exact MSub.refl _))
          intro e he
          rw [List.take_add_one, edges_get hs2] at he
          rcases List.mem_append.1 he with h | h
          · exact hI e h
          · simp only [Option.toList_some, List.mem_singleton] at h
            rw [h]; simp only [rsEd]; omega
      · rintro B _ hk ⟨k, rfl, hI⟩
        simp only [Option.getD_some] at hk
        subst hk
        have hlen : (raw l).length = (edges l).length := by rw [← raw_edges, List.length_map]
        rw [hlen, List.take_length] at hI
        subst ht
        obtain ⟨L, h1, h2⟩ := ear_of h0 (sol_least hF.inE hI)
        repeat (first | refine l_val rfl rfl (by first | exact pureEval_ok rfl | exact v_load rfl (by repeat (first | exact List.Mem.head _ | apply List.Mem.tail)) rfl (by rfl)  | fail) ?_ | refine l_nil ?_ | refine c_region ?_ | refine c_seq ?_ | refine x_then ?_ | refine r_store rfl rfl rfl rfl rfl rfl rfl (by repeat (first | exact Upd.head | apply Upd.tail)) (by rfl) ?_ | refine c_ret ?_ | refine x_then_ret ?_ | refine x_block ?_ | refine x_block_ret ?_ | refine x_scope_ret ?_  | fail)
        refine x_rets (Ds := B :: Ds) rfl rfl (by repeat (first | exact Split.nil | exact Split.all | apply Split.mark | apply Split.keep)) rfl (by repeat (first | exact Res.nil | (apply Res.tmp; rfl) | (apply Res.cell; rfl; exact (by repeat (first | exact List.Mem.head _ | apply List.Mem.tail)); rfl; rfl))) rfl (fun W hW => .inr ⟨L, b3, h1, rfl, hW.below, ?_⟩)
        have h := hW.own (b3, _) (by repeat (first | exact List.Mem.head _ | apply List.Mem.tail))
        have h3 : ivec N (passes (edges l) q fun _ => 0) = ivec N L := ivec_congr h2
        exact ⟨Nat.le_of_not_lt h.1, h.2.trans (congrArg (fun x => some (Obj.cells ⟨x⟩ 3 (0, 0))) h3)⟩
      · rintro B _ _ ⟨rfl, rfl, hno⟩
        repeat (first | refine l_val rfl rfl (by first | exact v_add rfl rfl (by omega) (by omega) | exact pureEval_ok rfl  | fail) ?_ | refine l_nil ?_ | refine c_region ?_ | refine x_then ?_ | refine c_exit ?_ | refine x_then_exit ?_ | refine x_block_same ?_ | refine x_block_other rfl ?_  | fail)
        subst ht
        refine x_sink4 (x_backD (q + 1, B :: Ds) ⟨by simp only; omega, fun j hj => ?_⟩ (by simp only; omega) rfl rfl (by repeat (first | exact EnvSub.nil | refine EnvSub.cons rfl (by first | rfl | (congr 1; done) | (exact congrArg (Value.int _) (by omega)) | (simp; done)) ?_)) (by repeat (first | exact MSub.nil | refine MSub.keep (by first | rfl | assumption) ?_ | refine MSub.drop ?_ | exact MSub.refl _)))
        by_cases hjq : j = q
        · subst hjq; exact hno
        · exact hT j (by simp only at hj; omega)
    · have hq : q = N + 1 := by omega
      subst hq
      repeat (first | refine l_val rfl rfl (by first | exact pureEval_ok rfl  | fail) ?_ | refine l_nil ?_ | refine c_region ?_ | refine c_seq ?_ | refine x_then ?_ | refine r_store rfl rfl rfl rfl rfl rfl rfl (by repeat (first | exact Upd.head | apply Upd.tail)) (by rfl) ?_ | refine c_dec_f rfl (by first | omega  | fail) ?_ | refine c_ret ?_ | refine c_exit ?_ | refine x_then_exit ?_ | refine x_block_same ?_ | refine x_scope_ret ?_  | fail)
      refine x_rets (Ds := Ds) rfl rfl (by repeat (first | exact Split.nil | exact Split.all | apply Split.mark | apply Split.keep)) rfl (by repeat (first | exact Res.nil | (apply Res.tmp; rfl) | (apply Res.cell; rfl; exact (by repeat (first | exact List.Mem.head _ | apply List.Mem.tail)); rfl; rfl))) rfl (fun W hW => .inl ⟨ear_no fun s hs => ?_, by rw [h0]; rfl, hW.below⟩)
      exact none_sol hF.inE (Nat.le_refl _) (hT N (by omega)) s hs
end R22
end Go.Proofs
