/- Uncertain networks: Accepts in the specification; Refuted. -/
import Derived.Test.YtnmbglemgkopaaaCtK
set_option linter.unusedSectionVars false
set_option linter.unusedVariables false
set_option linter.unusedSimpArgs false
namespace Go.Proofs
open Go.RowKit Go.Kin Go.Kin.St Go.Kin.Ct
open R22
namespace R23
set_option maxRecDepth 100000 in
set_option maxHeartbeats 40000000 in
theorem rAccepts_calls (u : Un) (U : Option Addr) (capU : Nat) (us : List Us) (w : World) (hA : u.In w) (hl : u.L.length ≤ 1000) (hc : u.C.length ≤ 1000) (hU : Kin.At w U 2 (us.map usE)) (hu : us.length ≤ 1000) :
    Calls Try.prog 26 ⟨[.agg ⟨u.v⟩, .slice U us.length capU]⟩ w fun e w' => e = .returned (acV u.n u.L u.C us) ∧ Below w.heap.size w w' := by
  have hck : ∀ (mem : List (Nat × Obj)) (W : World), SatW w (base w) noJ mem W → Calls Try.prog 17 ⟨[.agg ⟨u.v⟩]⟩ W fun e w' => e = .returned (.int .i64 (chkU u.n u.L u.C)) ∧ Below W.heap.size W w' := fun mem W hW => rCheckU_calls u W (hA.sat hW) hl hc
  have hrd : ∀ (N : Nat) (y : Us) (x : Lk) (mem : List (Nat × Obj)) (W : World), u.n = N → chkU u.n u.L u.C = 0 → u.L[y.link.toNat]? = some x → SatW w (base w) noJ mem W → Calls Try.prog 49 ⟨[.agg ⟨u.v⟩, .agg ⟨lkE x⟩, .bool y.lower]⟩ W fun e w' => e = .returned (.agg ⟨edE (redU u.C N u.L y)⟩) ∧ Below W.heap.size W w' := fun N y x mem W hn h0 hx hW => by
    obtain ⟨n1, n2, l1, l2, hF, hT⟩ := chkU_ok h0
    rw [hn] at hF n1 n2 hT
    rw [Int.toNat_natCast] at hT
    rw [redU_of hx]
    exact Reduced_calls u N x y.lower W hn (by omega) (hA.sat hW) (by omega) hT hF (List.mem_of_getElem? hx)
  have hBl := hA.l
  obtain ⟨n, A, cap, L, B, cab, C⟩ := u
  simp only [Un.v] at hl hc hck hrd hBl ⊢
  refine fun_enter Try.func26 rfl Try.ntmps26 rfl rfl (satW_nil w) ?_
  repeat (first | refine l_val rfl rfl (by first | exact pureEval_ok rfl | exact v_load rfl (by repeat (first | exact List.Mem.head _ | apply List.Mem.tail)) rfl (by rfl)  | fail) ?_ | refine l_nil ?_ | refine c_region ?_ | refine c_seq ?_ | refine x_then ?_ | refine r_box rfl rfl rfl rfl (fun _ => ?_)  | fail)
  rename_i b2
  refine r_call rfl rfl rfl (fun W hW => hck _ W hW) ?_
  by_cases h0 : chkU n L C = 0
  rotate_left
  · repeat (first | refine l_val rfl rfl (by first | exact pureEval_ok rfl  | fail) ?_ | refine l_nil ?_ | refine c_region ?_ | refine c_seq ?_ | refine x_then ?_ | refine c_dec_t rfl (by first | omega  | fail) ?_ | refine c_ret ?_ | refine x_then_ret ?_  | fail)
    exact x_ret rfl rfl (by repeat (first | exact Res.nil | (apply Res.tmp; rfl) | (apply Res.cell; rfl; exact (by repeat (first | exact List.Mem.head _ | apply List.Mem.tail)); rfl; rfl))) rfl (fun W hW => ⟨by unfold acV; rw [accU_no fun g => h0 g.1], hW.below⟩)
  obtain ⟨n1, n2, l1, l2, hF, hT⟩ := chkU_ok h0
  obtain ⟨N, rfl⟩ : ∃ N : Nat, n = N := ⟨n.toNat, by omega⟩
  rw [Int.toNat_natCast] at hT
  have h0' := h0
  rw [h0']
  clear h0'
  by_cases c1 : us.length < 1
  · repeat (first | refine l_val rfl rfl (by first | exact pureEval_ok rfl  | fail) ?_ | refine l_nil ?_ | refine c_region ?_ | refine c_seq ?_ | refine x_then ?_ | refine l_skip rfl rfl ?_ | refine c_true rfl ?_ | refine c_false rfl ?_ | refine c_skip ?_ | refine c_ret ?_ | refine x_then_ret ?_ | refine l_dec_t rfl rfl rfl rfl rfl (by first | omega  | fail) ?_  | fail)
    exact x_ret rfl rfl (by repeat (first | exact Res.nil | (apply Res.tmp; rfl) | (apply Res.cell; rfl; exact (by repeat (first | exact List.Mem.head _ | apply List.Mem.tail)); rfl; rfl))) rfl (fun W hW => ⟨by unfold acV; rw [accU_no fun g => by omega, h0], hW.below⟩)
  by_cases c2 : 256 < us.length
  · repeat (first | refine l_val rfl rfl (by first | exact pureEval_ok rfl  | fail) ?_ | refine l_nil ?_ | refine c_region ?_ | refine c_seq ?_ | refine x_then ?_ | refine c_false rfl ?_ | refine c_dec_t rfl (by first | omega  | fail) ?_ | refine c_skip ?_ | refine c_ret ?_ | refine x_then_ret ?_ | refine l_dec_f rfl rfl rfl rfl rfl (by first | omega  | fail) ?_  | fail)
    exact x_ret rfl rfl (by repeat (first | exact Res.nil | (apply Res.tmp; rfl) | (apply Res.cell; rfl; exact (by repeat (first | exact List.Mem.head _ | apply List.Mem.tail)); rfl; rfl))) rfl (fun W hW => ⟨by unfold acV; rw [accU_no fun g => by omega, h0], hW.below⟩)
  have hac := accU_is (n := N) (L := L) (C := C) (us := us) ⟨h0, by omega, by omega⟩
  rw [Int.toNat_natCast] at hac
  repeat (first | refine l_val rfl rfl (by first | exact pureEval_ok rfl  | fail) ?_ | refine l_nil ?_ | refine c_region ?_ | refine c_seq ?_ | refine x_then ?_ | refine c_false rfl ?_ | refine c_dec_f rfl (by first | omega  | fail) ?_ | refine c_block ?_ | refine c_skip ?_ | refine l_dec_f rfl rfl rfl rfl rfl (by first | omega  | fail) ?_  | fail)
  refine c_loop (ι := Nat) (fun k => k ≤ us.length ∧ Kn L (us.take k)) (fun k => [(1, .slice U us.length capU), (2, .pointer (some ⟨b2, 0, none⟩)), (7, .int .i64 k)]) (fun _ => [(b2, .cells ⟨[.int .i64 N, .slice A L.length cap, .slice B C.length cab]⟩ 24 (0, 0))]) (fun k => us.length - k) 0 ⟨Nat.zero_le _, fun u hu => by simp at hu⟩ (by repeat (first | exact EnvSub.nil | refine EnvSub.cons rfl (by first | rfl | (congr 1; done) | (exact congrArg (Value.int _) (by omega)) | (simp; done)) ?_)) (by repeat (first | exact MSub.nil | refine MSub.keep (by first | rfl | assumption) ?_ | refine MSub.drop ?_ | exact MSub.refl _)) ?_
  rintro k ⟨hk, hKn⟩
  by_cases hlt : k < us.length
  · obtain ⟨y, hy⟩ : ∃ y, us[k]? = some y := ⟨_, List.getElem?_eq_getElem hlt⟩
    obtain ⟨b', o, rfl, hcy⟩ := hU k (usE y) (by simp [hy])
    have he := ext_of hcy
    by_cases hg : 0 ≤ y.link ∧ y.link < L.length
    · repeat (first | refine l_val rfl rfl (by first | exact v_add rfl rfl (by omega) (by omega) | exact pureEval_ok rfl  | fail) ?_ | refine l_nil ?_ | refine c_region ?_ | refine c_seq ?_ | refine x_then ?_ | refine c_dec_t rfl (by first | omega  | fail) ?_ | refine c_dec_f rfl (by first | omega  | fail) ?_ | refine c_block ?_ | refine c_skip ?_ | refine x_block ?_ | refine c_reads rfl (by decide +kernel) ?_ | refine q_val rfl rfl (by first | exact pureEval_ok rfl | exact v_load rfl (by repeat (first | exact List.Mem.head _ | apply List.Mem.tail)) rfl (by rfl) | exact v_load_ext0 rfl (by assumption) rfl (by rfl) | exact v_index rfl rfl rfl rfl (by omega) (by omega) (by with_reducible first | exact idx4 _ _ _   | fail)  | fail) ?_ | refine q_nil ?_ | refine q_dec_f rfl rfl rfl rfl (by first | omega  | fail) ?_  | fail)
      refine x_back (k + 1) ⟨hlt, fun z hz => ?_⟩ (by omega) (by repeat (first | exact EnvSub.nil | refine EnvSub.cons rfl (by first | rfl | (congr 1; done) | (exact congrArg (Value.int _) (by omega)) | (simp; done)) ?_)) (by repeat (first | exact MSub.nil | refine MSub.keep (by first | rfl | assumption) ?_ | refine MSub.drop ?_ | exact MSub.refl _))
      rw [List.take_add_one, hy] at hz
      rcases List.mem_append.1 hz with h | h
      · exact hKn z h
      · simp only [Option.toList_some, List.mem_singleton] at h
        rw [h]; exact hg
    · have hno : ¬ Kn L us := fun h => hg (h y (List.mem_of_getElem? hy))
      repeat' (first | refine l_val rfl rfl (by first | exact pureEval_ok rfl  | fail) ?_ | refine l_nil ?_ | refine c_region ?_ | refine c_seq ?_ | refine x_then ?_ | refine c_true rfl ?_ | refine c_dec_t rfl (by first | omega  | fail) ?_ | refine c_block ?_ | refine c_skip ?_ | refine c_ret ?_ | refine x_then_ret ?_ | refine x_block_ret ?_ | refine c_reads rfl (by decide +kernel) ?_ | refine q_val rfl rfl (by first | exact pureEval_ok rfl | exact v_load rfl (by repeat (first | exact List.Mem.head _ | apply List.Mem.tail)) rfl (by rfl) | exact v_load_ext0 rfl (by assumption) rfl (by rfl) | exact v_index rfl rfl rfl rfl (by omega) (by omega) (by with_reducible first | exact idx4 _ _ _   | fail)  | fail) ?_ | refine q_nil ?_ | refine q_skip rfl rfl ?_ | refine q_dec rfl rfl rfl rfl (fun _ => ?_) (fun _ => ?_)  | fail)
      all_goals first
        | exact x_ret rfl rfl (by repeat (first | exact Res.nil | (apply Res.tmp; rfl) | (apply Res.cell; rfl; exact (by repeat (first | exact List.Mem.head _ | apply List.Mem.tail)); rfl; rfl))) rfl (fun W hW => ⟨by unfold acV; rw [hac, kn_no hno, h0], hW.below⟩)
        | exact absurd (show 0 ≤ y.link ∧ y.link < L.length by omega) hg
  have hke : k = us.length := by omega
  subst hke
  rw [List.take_length] at hKn
  have hlk : ∀ {k : Nat} {y : Us}, us[k]? = some y → 0 ≤ y.link ∧ ∃ x, L[y.link.toNat]? = some x := fun {k y} hy => by
    have h := hKn y (List.mem_of_getElem? hy)
    exact ⟨h.1, _, List.getElem?_eq_getElem (by omega)⟩
  obtain ⟨ul, hul⟩ : ∃ u, us[us.length - 1]? = some u := ⟨_, List.getElem?_eq_getElem (by omega)⟩
  obtain ⟨g1, x1, g2⟩ := hlk hul
  have hle := last_red (C := C) (N := N) hul g1 g2
  obtain ⟨i1, i2, i3, i4⟩ := redU_in hT hF g2
  have hlu := hKn ul (List.mem_of_getElem? hul)
  have hUl := hU
  obtain ⟨bq, oq, rfl, hcq⟩ := hUl (us.length - 1) (usE ul) (by simp [hul])
  have heq := ext_of hcq
  rw [show us.length - 1 = ((us.length : Int) - 1).toNat by omega] at heq
  have hA0 := hBl
  obtain ⟨bl, ol, rfl, hcl⟩ := hA0 ul.link.toNat (lkE x1) (by simp [g2])
  have hel := ext_of hcl
  repeat (first | refine l_val rfl rfl (by first | exact v_sub rfl rfl (by omega) (by omega) | exact pureEval_ok rfl | exact v_load_ext0 rfl (by assumption) rfl (by rfl) | exact v_index rfl rfl rfl rfl (by omega) (by omega) (by with_reducible first | exact idx8 _ _ _   | fail)  | fail) ?_ | refine l_nil ?_ | refine c_region ?_ | refine c_seq ?_ | refine x_then ?_ | refine r_alloc rfl rfl rfl (by first | exact aggL  | fail) (fun _ => ?_) | refine r_store rfl rfl rfl rfl rfl rfl rfl (by repeat (first | exact Upd.head | apply Upd.tail)) (by rfl) ?_ | refine c_dec_f rfl (by first | omega  | fail) ?_ | refine c_exit ?_ | refine x_then_exit ?_ | refine x_block_same ?_ | refine c_reads rfl (by decide +kernel) ?_ | refine q_val rfl rfl (by first | exact pureEval_ok rfl | exact v_load rfl (by repeat (first | exact List.Mem.head _ | apply List.Mem.tail)) rfl (by rfl) | exact v_load_ext0 rfl (by assumption) rfl (by rfl) | exact v_index rfl rfl rfl rfl (by omega) (by omega) (by with_reducible first | exact idx8 _ _ _   | fail)  | fail) ?_  | fail)
  refine q_call rfl rfl rfl (fun W hW => hrd N ul x1 _ W rfl h0 g2 hW) ?_
  unfold edE
  repeat (first | refine l_val rfl rfl (by first | exact pureEval_ok rfl  | fail) ?_ | refine l_nil ?_ | refine c_region ?_ | refine c_seq ?_ | refine x_then ?_ | refine c_block ?_ | refine q_val rfl rfl (by first | exact pureEval_ok rfl  | fail) ?_ | refine q_nil ?_  | fail)
  clear hk
  refine c_loop (ι := Nat × Nat × Int) (fun p => p.1 ≤ us.length ∧ run (net C N L) (redU C N L ul).b 0 us = run (net C N L) p.2.1 p.2.2 (us.drop p.1) ∧ -(282574488338432 * (p.1 : Int)) ≤ p.2.2 ∧ p.2.2 ≤ 282574488338432 * (p.1 : Int))
    (fun p => [(1, .slice (some ⟨bq, oq, none⟩) us.length capU), (2, .pointer (some ⟨b2, 0, none⟩)), (9, .int .i64 p.2.1), (10, .int .i64 p.2.2), (11, .int .i64 p.1)])
    (fun p => [(b2, .cells ⟨[.int .i64 N, .slice (some ⟨bl, ol, none⟩) L.length cap, .slice B C.length cab]⟩ 24 (0, 0))])
    (fun p => us.length - p.1) (0, (redU C N L ul).b, 0) ⟨Nat.zero_le _, rfl, by simp, by simp⟩ (by repeat (first | exact EnvSub.nil | refine EnvSub.cons rfl (by first | rfl | (congr 1; done) | (exact congrArg (Value.int _) (by omega)) | (simp; done)) ?_)) (by repeat (first | exact MSub.nil | refine MSub.keep (by first | rfl | assumption) ?_ | refine MSub.drop ?_ | exact MSub.refl _)) ?_
  rintro ⟨k, at1, sm⟩ ⟨hk2, hrun, hs1, hs2⟩
  simp only at hk2 hrun hs1 hs2 ⊢
  have hacc : accepts (net C N L) us = match run (net C N L) at1 sm (us.drop k) with | none => false | some s => decide (s < 0) := by unfold accepts; rw [hle, hrun]; cases run (net C N L) at1 sm (us.drop k) <;> rfl
  by_cases hlt2 : k < us.length
  · obtain ⟨y, hy⟩ : ∃ y, us[k]? = some y := ⟨_, List.getElem?_eq_getElem hlt2⟩
    obtain ⟨q1, x2, q2⟩ := hlk hy
    obtain ⟨j1, j2, j3, j4⟩ := redU_in hT hF q2
    have hly := hKn y (List.mem_of_getElem? hy)
    obtain ⟨bq', oq', e1, hcy⟩ := hU k (usE y) (by simp [hy])
    cases e1
    have hey := ext_of hcy
    obtain ⟨bl', ol', e2, hcm⟩ := hBl y.link.toNat (lkE x2) (by simp [q2])
    cases e2
    have hem := ext_of hcm
    have hdrop : us.drop k = y :: us.drop (k + 1) := by
      rw [List.drop_eq_getElem_cons hlt2]
      rw [List.getElem?_eq_getElem hlt2] at hy
      cases hy; rfl
    rw [hdrop, run_cons (step_red q1 q2)] at hacc hrun
    repeat ((fail_if_success refine c_probe (id := 17) ?_); (fail_if_success refine c_probe1 (id := 17) ?_); first | refine l_val rfl rfl (by first | exact pureEval_ok rfl  | fail) ?_ | refine l_nil ?_ | refine c_region ?_ | refine c_seq ?_ | refine x_then ?_ | refine c_dec_t rfl (by first | omega  | fail) ?_ | refine c_block ?_ | refine c_skip ?_  | fail)
    refine c_seq ?_
    refine c_new 0 1 [(15, .cal (.agg ⟨edE (redU C N L y)⟩)), (16, .new 0), (17, .sto 0 0 3)] [(15,[]),(16,[0]),(17,[0])] [] rfl (by decide +kernel) rfl ?_; repeat (first | refine e_val rfl rfl rfl rfl (by first | exact pureEval_ok rfl | exact v_load rfl (by repeat (first | exact List.Mem.head _ | apply List.Mem.tail)) rfl (by rfl) | exact v_load_ext0 rfl (by assumption) rfl (by rfl) | exact v_load_ext rfl (by assumption) rfl (by rfl) | exact v_index rfl rfl rfl rfl (by omega) (by omega) (by with_reducible first | exact idx4 _ _ _  | exact idx8 _ _ _   | fail)  | fail) ?_  | fail)
    refine e_call rfl rfl rfl rfl rfl (fun W hW => hrd N y x2 _ W rfl h0 q2 hW) ?_
    unfold edE
    by_cases hat : (redU C N L y).a = at1
    · rw [if_pos hat] at hacc hrun
      repeat (first | refine l_val rfl rfl (by first | exact v_add rfl rfl (by omega) (by omega) | exact pureEval_ok rfl | exact v_load rfl (by repeat (first | exact List.Mem.head _ | apply List.Mem.tail)) rfl (by rfl)  | fail) ?_ | refine l_nil ?_ | refine c_region ?_ | refine c_seq ?_ | refine x_then ?_ | refine c_dec_f rfl (by first | omega  | fail) ?_ | refine c_skip ?_ | refine x_block ?_ | refine e_new rfl rfl rfl rfl (by first | exact n_alloc rfl (by first | exact aggL  | fail)  | fail) (fun _ => ?_) | refine e_store rfl rfl rfl rfl rfl rfl rfl rfl (by first | rfl  | fail) rfl rfl (by first | (simp; done)  | fail) (by first | exact splice_lit (by rfl)  | fail) ?_ | refine e_nil rfl ?_  | fail)
      exact x_back (k + 1, (redU C N L y).b, sm + (redU C N L y).w) ⟨hlt2, hrun, by simp only; omega, by simp only; omega⟩ (by simp only; omega) (by repeat (first | exact EnvSub.nil | refine EnvSub.cons rfl (by first | rfl | (congr 1; done) | (exact congrArg (Value.int _) (by omega)) | (simp; done)) ?_)) (by repeat (first | exact MSub.nil | refine MSub.keep (by first | rfl | assumption) ?_ | refine MSub.drop ?_ | exact MSub.refl _))
    · rw [if_neg hat] at hacc
      repeat (first | refine l_val rfl rfl (by first | exact pureEval_ok rfl | exact v_load rfl (by repeat (first | exact List.Mem.head _ | apply List.Mem.tail)) rfl (by rfl)  | fail) ?_ | refine l_nil ?_ | refine c_region ?_ | refine c_seq ?_ | refine x_then ?_ | refine c_dec_t rfl (by first | omega  | fail) ?_ | refine c_ret ?_ | refine x_then_ret ?_ | refine x_block_ret ?_ | refine e_new rfl rfl rfl rfl (by first | exact n_alloc rfl (by first | exact aggL  | fail)  | fail) (fun _ => ?_) | refine e_store rfl rfl rfl rfl rfl rfl rfl rfl (by first | rfl  | fail) rfl rfl (by first | (simp; done)  | fail) (by first | exact splice_lit (by rfl)  | fail) ?_ | refine e_nil rfl ?_  | fail)
      exact x_ret rfl rfl (by repeat (first | exact Res.nil | (apply Res.tmp; rfl) | (apply Res.cell; rfl; exact (by repeat (first | exact List.Mem.head _ | apply List.Mem.tail)); rfl; rfl))) rfl (fun W hW => ⟨by unfold acV; rw [hac, hacc, h0], hW.below⟩)
  · have hke : k = us.length := by omega
    subst hke
    rw [List.drop_length] at hacc
    have hac2 : accepts (net C N L) us = decide (sm < 0) := hacc
    repeat (first | refine l_val rfl rfl (by first | exact pureEval_ok rfl  | fail) ?_ | refine l_nil ?_ | refine c_region ?_ | refine c_seq ?_ | refine x_then ?_ | refine c_dec_f rfl (by first | omega  | fail) ?_ | refine c_ret ?_ | refine c_exit ?_ | refine x_then_exit ?_ | refine x_block_same ?_  | fail)
    exact x_ret rfl rfl (by repeat (first | exact Res.nil | (apply Res.tmp; rfl) | (apply Res.cell; rfl; exact (by repeat (first | exact List.Mem.head _ | apply List.Mem.tail)); rfl; rfl))) rfl (fun W hW => ⟨by unfold acV; rw [hac, hac2, h0], hW.below⟩)
/-! ## Refuted -/
noncomputable def rfB (n : Int) (L C : List Lk) : Bool := @decide (chkU n L C = 0 ∧ str n L C = none) (Classical.propDecidable _)
theorem Refuted_calls (u : Un) (w : World) (hA : u.In w) (hl : u.L.length ≤ 1000) (hc : u.C.length ≤ 1000) (hf : chkU u.n u.L u.C = 0 → u.L.length ≤ 30 ∧ u.C.length ≤ 30) :
    Calls Try.prog 25 ⟨[.agg ⟨u.v⟩]⟩ w fun e w' => e = .returned (.tuple ⟨[.bool (rfB u.n u.L u.C), .int .i64 (chkU u.n u.L u.C)]⟩) ∧ Below w.heap.size w w' := by
  have hst : ∀ (mem : List (Nat × Obj)) (W : World), SatW w (base w) noJ mem W → Calls Try.prog 23 ⟨[.agg ⟨u.v⟩]⟩ W (StrQ u.n u.L u.C W) := fun mem W hW => rStrong_calls u W (hA.sat hW) hl hc hf
  obtain ⟨n, A, cap, L, B, cab, C⟩ := u
  simp only [Un.v] at hl hc hf hst ⊢
  refine fun_enter Try.func25 rfl Try.ntmps25 rfl rfl (satW_nil w) ?_
  repeat (first | refine l_val rfl rfl (by first | exact pureEval_ok rfl | exact v_load rfl (by repeat (first | exact List.Mem.head _ | apply List.Mem.tail)) rfl (by rfl)  | fail) ?_ | refine l_nil ?_ | refine c_region ?_ | refine c_seq ?_ | refine x_then ?_ | refine r_box rfl rfl rfl rfl (fun _ => ?_)  | fail)
  cases hs : str n L C with
  | some t =>
    have h0 := (str_least hs).1
    have hb : rfB n L C = false := @decide_eq_false _ (Classical.propDecidable _) (fun h => by rw [hs] at h; cases h.2)
    refine r_callI (ι := Nat) (v := fun b => yesV n.toNat b) rfl rfl rfl (fun W hW => (hst _ W hW).mono fun e W' hq => ?_) (fun b => ?_)
    · rcases hq with ⟨g, _⟩ | ⟨t', b, g1, g2, g3, _⟩
      · rw [hs] at g; cases g
      · exact ⟨b, g2, g3⟩
    unfold yesV
    repeat (first | refine l_val rfl rfl (by first | exact pureEval_ok rfl  | fail) ?_ | refine l_nil ?_ | refine c_region ?_ | refine c_seq ?_ | refine x_then ?_ | refine c_ret ?_  | fail)
    exact x_ret rfl rfl (by repeat (first | exact Res.nil | (apply Res.tmp; rfl) | (apply Res.cell; rfl; exact (by repeat (first | exact List.Mem.head _ | apply List.Mem.tail)); rfl; rfl))) rfl (fun W hW => ⟨by rw [hb, h0]; rfl, hW.below⟩)
  | none =>
    refine r_call (v := noV (chkU n L C)) rfl rfl rfl (fun W hW => (hst _ W hW).mono fun e W' hq => ?_) ?_
    · rcases hq with ⟨_, g2, g3⟩ | ⟨t', b, g1, _⟩
      · exact ⟨g2, g3⟩
      · rw [hs] at g1; cases g1
    unfold noV
    by_cases h0 : chkU n L C = 0
    · have hb : rfB n L C = true := @decide_eq_true _ (Classical.propDecidable _) ⟨h0, hs⟩
      repeat (first | refine l_val rfl rfl (by first | exact pureEval_ok rfl  | fail) ?_ | refine l_nil ?_ | refine c_region ?_ | refine c_seq ?_ | refine x_then ?_ | refine c_ret ?_ | refine l_dec_t rfl rfl rfl rfl rfl (by first | omega  | fail) ?_  | fail)
      exact x_ret rfl rfl (by repeat (first | exact Res.nil | (apply Res.tmp; rfl) | (apply Res.cell; rfl; exact (by repeat (first | exact List.Mem.head _ | apply List.Mem.tail)); rfl; rfl))) rfl (fun W hW => ⟨by rw [hb]; rfl, hW.below⟩)
    · have hb : rfB n L C = false := @decide_eq_false _ (Classical.propDecidable _) (fun h => h0 h.1)
      repeat (first | refine l_val rfl rfl (by first | exact pureEval_ok rfl  | fail) ?_ | refine l_nil ?_ | refine c_region ?_ | refine c_seq ?_ | refine x_then ?_ | refine l_skip rfl rfl ?_ | refine c_ret ?_ | refine l_dec_f rfl rfl rfl rfl rfl (by first | omega  | fail) ?_  | fail)
      refine x_ret rfl rfl (by repeat (first | exact Res.nil | (apply Res.tmp; rfl) | (apply Res.cell; rfl; exact (by repeat (first | exact List.Mem.head _ | apply List.Mem.tail)); rfl; rfl))) rfl (fun W hW => ⟨?_, hW.below⟩)
      rw [hb]
end R23
end Go.Proofs
