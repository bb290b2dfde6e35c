/- Uncertain networks: the law Least. -/
import Derived.Test.YtnmbglemgkopaaaCtLw
import Derived.Test.YtnmbglemgkopaaaCtI
import Derived.Test.YtnmbglemgkopaaaCtSan
set_option linter.unusedSectionVars false
set_option linter.unusedVariables false
set_option linter.unusedSimpArgs false
namespace Go.Proofs
open Go.RowKit Go.Kin Go.Kin.St Go.Kin.Ct
open R22 (lkE)
namespace R23
theorem flatI_tmL {N : Nat} {t : Nat → Int} : flatI (tmL N t) = ivec N t := flatI_ivec
theorem low_cells {N p : Nat} {t : Nat → Int} {r : List Value} (h : p < N) : ([] ++ ivec N t ++ r).set p (.int .i64 (t p - 1)) = flatI (tmL N (lowT t p)) ++ r := by
  rw [List.nil_append, List.set_append_left _ _ (by rw [ivec_length]; exact h), ivec_set, flatI_tmL]
  rfl
set_option maxRecDepth 100000 in
set_option maxHeartbeats 40000000 in
theorem law8 (u : Un) (at' : Int) (w : World) (hA : u.In w) (ha : 0 ≤ at' ∧ at' ≤ 255) :
    Calls Try.prog 8 ⟨[.agg ⟨u.v⟩, .int .u8 at']⟩ w fun e w' => e = .returned (.bool true) ∧ Below w.heap.size w w' := by
  have hfe : ∀ (W : World), Calls Try.prog 13 ⟨[.agg ⟨u.v⟩]⟩ W fun e w' => e = .returned (.bool (fewB u.n u.L.length u.C.length)) ∧ Below W.heap.size W w' := fun W => Few_calls u W
  have hfw : fewB u.n u.L.length u.C.length = true → chkU u.n u.L u.C = 0 → u.L.length ≤ 30 ∧ u.C.length ≤ 30 := fun hf h0 => by have := (few_yes hf).2.2 h0; exact ⟨this.1, this.2.1⟩
  have h16 : ∀ (mem : List (Nat × Obj)) (W : World), fewB u.n u.L.length u.C.length = true → SatW w (base w) noJ mem W → Calls Try.prog 16 ⟨[.agg ⟨u.v⟩]⟩ W fun e w' => e = .returned (.int .i64 (chkU u.n u.L u.C)) ∧ Below W.heap.size W w' := fun mem W hf hW => Check_calls u W (hA.sat hW) (by have := (few_yes hf).1; omega)
  have h22 : ∀ (mem : List (Nat × Obj)) (W : World), fewB u.n u.L.length u.C.length = true → SatW w (base w) noJ mem W → Calls Try.prog 22 ⟨[.agg ⟨u.v⟩]⟩ W (StrQ u.n u.L u.C W) := fun mem W hf hW => Strong_calls u W (hA.sat hW) (by have := (few_yes hf).1; omega) (hfw hf)
  have h28 : ∀ (N : Nat) (b c : Nat) (t : List Int) (x : Lk) (lw : Bool) (mem : List (Nat × Obj)) (W : World), u.n = N → chkU u.n u.L u.C = 0 → u.L.length ≤ 1000 → t.length = N → Times t → x ∈ u.L → Kin.At W (some ⟨b, 0, none⟩) 1 (t.map inE) → SatW w (base w) noJ mem W → Calls Try.prog 28 ⟨[.agg ⟨u.v⟩, .slice (some ⟨b, 0, none⟩) N c, .agg ⟨lkE x⟩, .bool lw]⟩ W fun e w' => e = .returned (.bool (brB u.C N (tf t) x lw)) ∧ Below W.heap.size W w' := fun N b c t x lw mem W hn h0 hl htl ht hx hT hW => by
    have := breaks_calls u N (some ⟨b, 0, none⟩) c t x lw W hn (hA.sat hW) h0 hl hT htl ht hx
    rw [htl] at this
    exact this
  have hAl := hA.l
  have hAc := hA.c
  obtain ⟨n, A, cap, L, B, cab, C⟩ := u
  simp only [Un.v] at hfe hfw h16 h22 h28 hAl hAc ⊢
  refine fun_enter Try.func8 rfl Try.ntmps8 rfl rfl (satW_nil w) ?_
  repeat (first | refine l_val rfl rfl (by first | exact pureEval_ok rfl  | fail) ?_ | refine l_nil ?_ | refine c_region ?_ | refine c_seq ?_ | refine x_then ?_ | refine r_box rfl rfl rfl rfl (fun _ => ?_)  | fail)
  refine r_call rfl rfl rfl (fun W hW => sane_calls W) ?_
  repeat (first | refine l_val rfl rfl (by first | exact pureEval_ok rfl | exact v_load rfl (by repeat (first | exact List.Mem.head _ | apply List.Mem.tail)) rfl (by rfl)  | fail) ?_ | refine l_nil ?_ | refine c_region ?_ | refine c_seq ?_ | refine x_then ?_ | refine c_false rfl ?_ | refine c_skip ?_  | fail)
  refine r_call rfl rfl rfl (fun W hW => hfe W) ?_
  cases hf : fewB n L.length C.length with
  | false =>
    repeat (first | refine l_val rfl rfl (by first | exact pureEval_ok rfl | exact v_load rfl (by repeat (first | exact List.Mem.head _ | apply List.Mem.tail)) rfl (by rfl)  | fail) ?_ | refine l_nil ?_ | refine c_region ?_ | refine c_seq ?_ | refine x_then ?_ | refine l_skip rfl rfl ?_ | refine c_true rfl ?_ | refine c_ret ?_ | refine x_then_ret ?_  | fail)
    exact x_ret rfl rfl (by repeat (first | exact Res.nil | (apply Res.tmp; rfl) | (apply Res.cell; rfl; exact (by repeat (first | exact List.Mem.head _ | apply List.Mem.tail)); rfl; rfl))) rfl (fun W hW => ⟨rfl, hW.below⟩)
  | true =>
    repeat (first | refine l_val rfl rfl (by first | exact pureEval_ok rfl | exact v_load rfl (by repeat (first | exact List.Mem.head _ | apply List.Mem.tail)) rfl (by rfl)  | fail) ?_  | fail)
    refine r_call rfl rfl rfl (fun W hW => h16 _ W hf hW) ?_
    by_cases h0 : chkU n L C = 0
    rotate_left
    · repeat (first | refine l_val rfl rfl (by first | exact pureEval_ok rfl  | fail) ?_ | refine l_nil ?_ | refine c_region ?_ | refine c_seq ?_ | refine x_then ?_ | refine c_dec_t rfl (by first | omega  | fail) ?_ | refine c_ret ?_ | refine x_then_ret ?_  | fail)
      exact x_ret rfl rfl (by repeat (first | exact Res.nil | (apply Res.tmp; rfl) | (apply Res.cell; rfl; exact (by repeat (first | exact List.Mem.head _ | apply List.Mem.tail)); rfl; rfl))) rfl (fun W hW => ⟨rfl, hW.below⟩)
    rw [h0]
    cases hs : str n L C with
    | none =>
      repeat (first | refine l_val rfl rfl (by first | exact pureEval_ok rfl | exact v_load rfl (by repeat (first | exact List.Mem.head _ | apply List.Mem.tail)) rfl (by rfl)  | fail) ?_ | refine l_nil ?_ | refine c_region ?_ | refine c_seq ?_ | refine x_then ?_ | refine c_false rfl ?_ | refine c_skip ?_  | fail)
      refine r_call (v := noV 0) rfl rfl rfl (fun W hW => (h22 _ W hf hW).mono fun e W' hq => str_noV h0 hs hq) ?_
      unfold noV
      repeat (first | refine l_val rfl rfl (by first | exact pureEval_ok rfl  | fail) ?_ | refine l_nil ?_ | refine c_region ?_ | refine c_seq ?_ | refine x_then ?_ | refine c_true rfl ?_ | refine c_false rfl ?_ | refine c_skip ?_ | refine c_ret ?_ | refine x_then_ret ?_  | fail)
      exact x_ret rfl rfl (by repeat (first | exact Res.nil | (apply Res.tmp; rfl) | (apply Res.cell; rfl; exact (by repeat (first | exact List.Mem.head _ | apply List.Mem.tail)); rfl; rfl))) rfl (fun W hW => ⟨rfl, hW.below⟩)
    | some t =>
      obtain ⟨n1, n2, -⟩ := chkU_ok h0
      obtain ⟨N, rfl⟩ : ∃ N : Nat, n = N := ⟨n.toNat, by omega⟩
      have hfy := (few_yes hf).2.2 h0
      have hyes : ∀ {W W' : World} {e : Ending}, StrQ N L C W e W' → ∃ b : Nat, e = .returned (yesV N b) ∧ Below W.heap.size W W' ∧ W.heap.size ≤ b ∧ W'.heap[b]? = some (.cells ⟨ivec N t⟩ 3 (0, 0)) := fun {W W' e} hq => by
        rcases hq with ⟨g, _⟩ | ⟨t', b, g1, g2, g3, g4, g5⟩
        · rw [hs] at g; cases g
        · rw [hs] at g1
          cases g1
          rw [Int.toNat_natCast] at g2 g5
          exact ⟨b, g2, g3, g4, g5⟩
      have hpos := (str_least hs).2.pos
      rw [Int.toNat_natCast] at hpos
      repeat (first | refine l_val rfl rfl (by first | exact pureEval_ok rfl | exact v_load rfl (by repeat (first | exact List.Mem.head _ | apply List.Mem.tail)) rfl (by rfl)  | fail) ?_ | refine l_nil ?_ | refine c_region ?_ | refine c_seq ?_ | refine x_then ?_ | refine c_false rfl ?_ | refine c_skip ?_  | fail)
      refine r_call1 (ι := Nat) (bk := fun b => b) (v := fun b => yesV N b) (o := fun b => .cells ⟨ivec N t⟩ 3 (0, 0)) rfl rfl rfl (fun W hW => (h22 _ W hf hW).mono fun e W' hq => hyes hq) (fun b1 => ?_)
      unfold yesV
      repeat ((fail_if_success refine c_probe (id := 13) ?_); (fail_if_success refine c_probe1 (id := 13) ?_); first | refine l_val rfl rfl (by first | exact pureEval_ok rfl | exact v_load rfl (by repeat (first | exact List.Mem.head _ | apply List.Mem.tail)) rfl (by rfl)  | fail) ?_ | refine l_nil ?_ | refine c_region ?_ | refine c_seq ?_ | refine x_then ?_ | refine c_false rfl ?_ | refine c_dec_f rfl (by first | omega | exact fun h => h rfl  | fail) ?_ | refine c_block ?_ | refine c_skip ?_  | fail)
      rename_i b0
      refine c_loop (ι := Nat) (fun k => k ≤ C.length) (fun k => [(1, .int .u8 at'), (2, .pointer (some ⟨b0, 0, none⟩)), (5, .slice (some ⟨b1, 0, none⟩) N N), (40, .slice B C.length cab), (41, .int .i64 C.length), (42, .int .i64 k)])
        (fun _ => [(b1, .cells ⟨ivec N t⟩ 3 (0, 0)), (b0, .cells ⟨[.int .i64 N, .slice A L.length cap, .slice B C.length cab]⟩ 24 (0, 0))]) (fun k => C.length - k) 0 (Nat.zero_le _) (by repeat (first | exact EnvSub.nil | refine EnvSub.cons rfl (by first | rfl | (congr 1; done) | (exact congrArg (Value.int _) (by omega)) | (simp; done)) ?_)) (by repeat (first | exact MSub.nil | refine MSub.keep (by first | rfl | assumption) ?_ | refine MSub.drop ?_ | exact MSub.refl _)) ?_
      intro k hk
      by_cases hlt : k < C.length
      · obtain ⟨x, hx⟩ : ∃ x, C[k]? = some x := ⟨_, List.getElem?_eq_getElem hlt⟩
        obtain ⟨bc, oc, rfl, hcc⟩ := hAc k (lkE x) (by simp [hx])
        have hec := ext_of hcc
        obtain ⟨q, hq, hqN, hq0⟩ := called_zero hs (List.mem_of_getElem? hx)
        rw [hq] at hec
        have hiv := ivec_get (f := t) hqN
        rw [hq0] at hiv
        repeat (first | refine l_val rfl rfl (by first | exact v_add rfl rfl (by omega) (by omega) | exact pureEval_ok rfl | exact v_load rfl (by repeat (first | exact List.Mem.head _ | apply List.Mem.tail)) rfl (by rfl) | exact v_load_ext0 rfl (by assumption) rfl (by rfl) | exact v_index rfl rfl rfl rfl (by omega) (by omega) (by with_reducible first | exact idx1 _  | exact idx4 _ _ _   | fail) | exact v_load_at rfl (by repeat (first | exact List.Mem.head _ | apply List.Mem.tail)) rfl rfl (by first | exact ivec_get (by omega)  | fail)  | fail) ?_ | refine l_nil ?_ | refine c_region ?_ | refine c_seq ?_ | refine x_then ?_ | refine r_alloc rfl rfl rfl (by first | exact aggL  | fail) (fun _ => ?_) | refine r_store rfl rfl rfl rfl rfl rfl rfl (by repeat (first | exact Upd.head | apply Upd.tail)) (by rfl) ?_ | refine c_dec_t rfl (by first | omega  | fail) ?_ | refine c_dec_f rfl (by first | omega | exact fun h => h rfl  | fail) ?_ | refine c_block ?_ | refine c_skip ?_ | refine x_block ?_  | fail)
        exact x_back (k + 1) hlt (by omega) (by repeat (first | exact EnvSub.nil | refine EnvSub.cons rfl (by first | rfl | (congr 1; done) | (exact congrArg (Value.int _) (by omega)) | (simp; done)) ?_)) (by repeat (first | exact MSub.nil | refine MSub.keep (by first | rfl | assumption) ?_ | refine MSub.drop ?_ | exact MSub.refl _))
      have hke : k = C.length := by omega
      subst hke
      clear hlt
      obtain ⟨p, hp⟩ : ∃ p : Nat, at' % N = p := ⟨(at' % N).toNat, by have := Int.emod_nonneg at' (b := N) (by omega); omega⟩
      have hpN : p < N := by have := Int.emod_lt_of_pos at' (b := N) (by omega); omega
      have hp0 := hpos p hpN
      repeat ((fail_if_success refine c_probe (id := 19) ?_); (fail_if_success refine c_probe1 (id := 19) ?_); first | refine l_val rfl rfl (by first | exact v_iconv rfl rfl rfl (by omega) (by omega) | exact pureEval_ok rfl | exact v_load rfl (by repeat (first | exact List.Mem.head _ | apply List.Mem.tail)) rfl (by rfl) | exact v_rem rfl rfl (by omega) (by omega)  | fail) ?_ | refine l_nil ?_ | refine c_region ?_ | refine c_seq ?_ | refine x_then ?_ | refine c_dec_f rfl (by first | omega | exact fun h => h rfl  | fail) ?_ | refine c_exit ?_ | refine x_then_exit ?_ | refine x_block_same ?_  | fail)
      rw [hp]
      refine c_keep [2, 5, 10] rfl ?_
      by_cases hz : t p = 0
      · have hiv := ivec_get (f := t) hpN
        rw [hz] at hiv
        repeat (first | refine l_val rfl rfl (by first | exact pureEval_ok rfl | exact v_index rfl rfl rfl rfl (by omega) (by omega) (by with_reducible first | exact idx1 _   | fail) | exact v_load_at rfl (by repeat (first | exact List.Mem.head _ | apply List.Mem.tail)) rfl rfl (by first | exact ivec_get (by omega)  | fail)  | fail) ?_ | refine l_nil ?_ | refine c_region ?_ | refine c_seq ?_ | refine x_then ?_ | refine c_dec_t rfl (by first | omega  | fail) ?_ | refine c_ret ?_ | refine x_then_ret ?_  | fail)
        exact x_ret rfl rfl (by repeat (first | exact Res.nil | (apply Res.tmp; rfl) | (apply Res.cell; rfl; exact (by repeat (first | exact List.Mem.head _ | apply List.Mem.tail)); rfl; rfl))) rfl (fun W hW => ⟨by rw [decide_eq_true hz], hW.below⟩)
      have hzp : 0 < t p := by omega
      have htm := low_times hs (by omega) hfy.2.1 hpN hzp
      have htl := tmL_len (N := N) (t := lowT t p)
      obtain ⟨v, hv⟩ : ∃ v, t p = v := ⟨_, rfl⟩
      have hvb := (str_times hs (by omega) hfy.2.1).1 (t p) (List.mem_map.2 ⟨p, List.mem_range.2 hpN, rfl⟩)
      rw [hv] at hz hzp hvb hp0
      have hiv := ivec_get (f := t) hpN
      rw [hv] at hiv
      have hex := low_breaks hs hpN (by omega)
      have hlow := fun (r : List Value) => low_cells (N := N) (t := t) (r := r) hpN
      rw [hv] at hlow
      repeat (first | refine l_val rfl rfl (by first | exact pureEval_ok rfl | exact v_index rfl rfl rfl rfl (by omega) (by omega) (by with_reducible first | exact idx1 _   | fail) | exact v_load_at rfl (by repeat (first | exact List.Mem.head _ | apply List.Mem.tail)) rfl rfl (by first | exact ivec_get (by omega)  | fail)  | fail) ?_ | refine l_nil ?_ | refine c_region ?_ | refine c_seq ?_ | refine x_then ?_ | refine r_buildSlice rfl rfl rfl rfl rfl rfl (by rfl) (fun _ => ?_) | refine c_dec_f rfl (by first | omega  | fail) ?_ | refine c_skip ?_  | fail)
      rename_i b2
      refine r_append (n := 0) (xs := []) (rest := []) (m := N) (ys := ivec N t) rfl rfl rfl rfl rfl rfl (news_own (by repeat (first | exact List.Mem.head _ | apply List.Mem.tail))) (by repeat (first | exact Rem.head | apply Rem.tail)) ⟨rfl, rfl, Nat.le_refl _, by decide⟩ (by rw [ivec_length, Nat.mul_one]) (by rw [← flatI_tmL]; exact flatI_one _) rfl (by omega) (by unfold maxLen; omega) (fun b3 c3 r3 hg3 => ?_)
      have hiv3 : ([] ++ ivec N t ++ r3)[p]? = some (.int .i64 v) := by
        rw [List.nil_append, List.getElem?_append_left (by rw [ivec_length]; exact hpN)]
        exact hiv
      rw [Nat.zero_add]
      repeat (first | refine l_val rfl rfl (by first | exact v_sub rfl rfl (by omega) (by omega) | exact pureEval_ok rfl | exact v_index rfl rfl rfl rfl (by omega) (by omega) (by with_reducible first | exact idx1 _   | fail) | exact v_load_at rfl (by repeat (first | exact List.Mem.head _ | apply List.Mem.tail)) rfl rfl (by first | assumption  | fail)  | fail) ?_ | refine l_nil ?_ | refine c_region ?_ | refine c_seq ?_ | refine x_then ?_  | fail)
      refine r_store_at rfl rfl rfl rfl rfl rfl (by repeat (first | exact Upd.head | apply Upd.tail)) (by rw [List.length_append, List.nil_append, ivec_length]; omega) (hlow r3) ?_
      obtain ⟨sl, hsl⟩ : ∃ l, tmL N (lowT t p) = l := ⟨_, rfl⟩
      rw [hsl] at htm htl hex ⊢
      clear hlow hiv3 hiv hg3
      repeat ((fail_if_success refine c_probe (id := 24) ?_); (fail_if_success refine c_probe1 (id := 24) ?_); first | refine l_val rfl rfl (by first | exact pureEval_ok rfl | exact v_load rfl (by repeat (first | exact List.Mem.head _ | apply List.Mem.tail)) rfl (by rfl)  | fail) ?_ | refine l_nil ?_ | refine c_region ?_ | refine c_seq ?_ | refine x_then ?_ | refine c_block ?_  | fail)
      refine c_loop (ι := Nat) (fun k => k ≤ L.length ∧ ∀ (j : Nat) (x : Lk), j < k → L[j]? = some x → brB C N (tf sl) x false = false ∧ brB C N (tf sl) x true = false) (fun k => [(2, .pointer (some ⟨b0, 0, none⟩)), (11, .slice (some ⟨b3, 0, none⟩) N c3), (78, .slice A L.length cap), (79, .int .i64 L.length), (80, .int .i64 k)])
        (fun _ => [(b3, .cells ⟨flatI sl ++ r3⟩ 3 (0, 0)), (b0, .cells ⟨[.int .i64 N, .slice A L.length cap, .slice B C.length cab]⟩ 24 (0, 0))]) (fun k => L.length - k) 0 ⟨Nat.zero_le _, fun j x h => by omega⟩ (by repeat (first | exact EnvSub.nil | refine EnvSub.cons rfl (by first | rfl | (congr 1; done) | (exact congrArg (Value.int _) (by omega)) | (simp; done)) ?_)) (by repeat (first | exact MSub.nil | refine MSub.keep (by first | rfl | assumption) ?_ | refine MSub.drop ?_ | exact MSub.refl _)) ?_
      rintro k ⟨hk, hno⟩
      by_cases hlt : k < L.length
      · obtain ⟨x, hx⟩ : ∃ x, L[k]? = some x := ⟨_, List.getElem?_eq_getElem hlt⟩
        obtain ⟨bc, oc, rfl, hcc⟩ := hAl k (lkE x) (by simp [hx])
        have hec := ext_of hcc
        have hbr : ∀ (lw : Bool) (mem : List (Nat × Obj)) (W : World), (b3, Obj.cells ⟨flatI sl ++ r3⟩ 3 (0, 0)) ∈ mem → SatW w (base w) noJ mem W → _ := fun lw mem W hm hW => h28 N b3 c3 sl x lw mem W rfl h0 (by omega) htl htm (List.mem_of_getElem? hx) (SatW.rows (b := b3) (rest := r3) (rows := sl.map inE) hW hm rfl (in_len _)) hW
        have hno' := fun (_ : Unit) => hno
        clear hno hex
        repeat (first | refine l_val rfl rfl (by first | exact pureEval_ok rfl | exact v_load rfl (by repeat (first | exact List.Mem.head _ | apply List.Mem.tail)) rfl (by rfl) | exact v_load_ext0 rfl (by assumption) rfl (by rfl) | exact v_index rfl rfl rfl rfl (by omega) (by omega) (by with_reducible first | exact idx4 _ _ _   | fail)  | fail) ?_ | refine l_nil ?_ | refine c_region ?_ | refine c_seq ?_ | refine x_then ?_ | refine r_alloc rfl rfl rfl (by first | exact aggL  | fail) (fun _ => ?_) | refine r_store rfl rfl rfl rfl rfl rfl rfl (by repeat (first | exact Upd.head | apply Upd.tail)) (by rfl) ?_ | refine c_dec_t rfl (by first | omega  | fail) ?_ | refine c_block ?_ | refine c_skip ?_  | fail)
        refine r_call rfl rfl rfl (fun W hW => hbr false _ W (by repeat (first | exact List.Mem.head _ | apply List.Mem.tail)) hW) ?_
        cases hb1 : brB C N (tf sl) x false with
        | true =>
          repeat (first | refine l_val rfl rfl (by first | exact pureEval_ok rfl | exact v_load rfl (by repeat (first | exact List.Mem.head _ | apply List.Mem.tail)) rfl (by rfl)  | fail) ?_ | refine l_nil ?_ | refine c_region ?_ | refine c_seq ?_ | refine x_then ?_ | refine l_skip rfl rfl ?_ | refine c_true rfl ?_ | refine c_ret ?_ | refine x_then_ret ?_ | refine x_block_ret ?_  | fail)
          exact x_ret rfl rfl (by repeat (first | exact Res.nil | (apply Res.tmp; rfl) | (apply Res.cell; rfl; exact (by repeat (first | exact List.Mem.head _ | apply List.Mem.tail)); rfl; rfl))) rfl (fun W hW => ⟨rfl, hW.below⟩)
        | false =>
          repeat (first | refine l_val rfl rfl (by first | exact pureEval_ok rfl | exact v_load rfl (by repeat (first | exact List.Mem.head _ | apply List.Mem.tail)) rfl (by rfl)  | fail) ?_  | fail)
          refine r_call rfl rfl rfl (fun W hW => hbr true _ W (by repeat (first | exact List.Mem.head _ | apply List.Mem.tail)) hW) ?_
          cases hb2 : brB C N (tf sl) x true with
          | true =>
            repeat (first | refine l_val rfl rfl (by first | exact pureEval_ok rfl  | fail) ?_ | refine l_nil ?_ | refine c_region ?_ | refine c_seq ?_ | refine x_then ?_ | refine c_true rfl ?_ | refine c_ret ?_ | refine x_then_ret ?_ | refine x_block_ret ?_  | fail)
            exact x_ret rfl rfl (by repeat (first | exact Res.nil | (apply Res.tmp; rfl) | (apply Res.cell; rfl; exact (by repeat (first | exact List.Mem.head _ | apply List.Mem.tail)); rfl; rfl))) rfl (fun W hW => ⟨rfl, hW.below⟩)
          | false =>
            repeat (first | refine l_val rfl rfl (by first | exact v_add rfl rfl (by omega) (by omega) | exact pureEval_ok rfl  | fail) ?_ | refine l_nil ?_ | refine c_region ?_ | refine x_then ?_ | refine c_false rfl ?_ | refine c_skip ?_ | refine x_block ?_  | fail)
            refine x_back (k + 1) ⟨hlt, fun j y hj hy => ?_⟩ (by omega) (by repeat (first | exact EnvSub.nil | refine EnvSub.cons rfl (by first | rfl | (congr 1; done) | (exact congrArg (Value.int _) (by omega)) | (simp; done)) ?_)) (by repeat (first | exact MSub.nil | refine MSub.keep (by first | rfl | assumption) ?_ | refine MSub.drop ?_ | exact MSub.refl _))
            rcases Nat.lt_or_ge j k with h | h
            · exact hno' () j y h hy
            · have : j = k := by omega
              subst this
              rw [hx] at hy
              cases hy
              exact ⟨hb1, hb2⟩
      · obtain ⟨k1, x1, hx1, hb⟩ := hex
        have hl1 := (List.getElem?_eq_some_iff.1 hx1).1
        obtain ⟨g1, g2⟩ := hno k1 x1 (by omega) hx1
        rw [g1, g2] at hb
        rcases hb with h | h <;> cases h
end R23
end Go.Proofs
