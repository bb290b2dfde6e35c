/- Clocks: Ticks, Begin, Length, Locate, At, in the specification; few. -/
import Derived.Test.YtjagcijgfmclhaaTpH
import Derived.Test.YtjagcijgfmclhaaTpU
import Derived.Test.YtjagcijgfmclhaaTpT
set_option linter.unusedSectionVars false
set_option linter.unusedVariables false
set_option linter.unusedSimpArgs false
namespace Go.Proofs
open Go.RowKit Go.Kin Go.Kin.Tm
namespace R13
theorem rcheckK (c : Clk) (w : World) (hl : c.Sm) (hA : c.In w) : Calls Try.prog 17 ⟨[.agg ⟨c.v⟩]⟩ w fun e w' => e = .returned (.int .i64 c.k) ∧ Below w.heap.size w w' := rcheck_calls c w hl.a hl.b hl.c hA

set_option maxRecDepth 100000 in
set_option maxHeartbeats 4000000 in
theorem rTicks_calls (c : Clk) (bar : Int) (w : World) (hl : c.Sm) (hA : c.In w) :
    Calls Try.prog 13 ⟨[.agg ⟨c.v⟩, .int .i64 bar]⟩ w fun e w' => e = .returned (v2 (tkA c bar)) ∧ Below w.heap.size w w' := by
  refine fun_enter Try.func13 rfl Try.ntmps13 rfl rfl (satW_nil w) ?_
  repeat (first | refine l_val rfl rfl (by first | exact pureEval_ok rfl | exact v_load rfl (by repeat (first | exact List.Mem.head _ | apply List.Mem.tail)) rfl (by rfl) ) ?_ | refine l_nil ?_ | refine c_region ?_ | refine c_seq ?_ | refine x_then ?_ | refine r_box rfl rfl rfl rfl (fun _ => ?_) )
  refine r_call rfl rfl rfl (fun W hW => rcheckK c W hl (hA.sat hW)) ?_
  by_cases h0 : c.k = 0
  · have hok := chk_ok.1 h0
    have hn1 := hok.n1
    have hn2 := hok.n2
    by_cases hb : 0 ≤ bar ∧ bar ≤ c.n - 1
    · have hb' := hb
      obtain ⟨hb1, hb2⟩ := hb'
      repeat (first | refine l_val rfl rfl (by first | exact v_sub rfl rfl (by omega) (by omega) | exact pureEval_ok rfl | exact v_load rfl (by repeat (first | exact List.Mem.head _ | apply List.Mem.tail)) rfl (by rfl) ) ?_ | refine l_nil ?_ | refine c_region ?_ | refine c_seq ?_ | refine x_then ?_ | refine c_dec_f rfl (by first | omega | exact fun h => h rfl ) ?_ | refine c_skip ?_ | refine c_not_f rfl (by first | omega ) ?_ | (refine r_call rfl rfl rfl (fun W hW => within_calls _ _ _ W) ?_) )
      refine r_call rfl rfl rfl (fun W hW => rticks_calls c bar W hl.a hn2 (ok_head hok) hok.asc hb1 (by omega) (hA.sat hW)) ?_
      repeat (first | refine l_val rfl rfl (by first | exact pureEval_ok rfl ) ?_ | refine l_nil ?_ | refine x_then ?_ | refine c_ret ?_ )
      exact x_ret rfl rfl (by repeat (first | exact Res.nil | (apply Res.tmp; rfl) | (apply Res.cell; rfl; exact (by repeat (first | exact List.Mem.head _ | apply List.Mem.tail)); rfl; rfl))) rfl (fun W hW => ⟨by rw [tkA_in h0 hb]; rfl, hW.below⟩)
    · repeat (first | refine l_val rfl rfl (by first | exact v_sub rfl rfl (by omega) (by omega) | exact pureEval_ok rfl | exact v_load rfl (by repeat (first | exact List.Mem.head _ | apply List.Mem.tail)) rfl (by rfl) ) ?_ | refine l_nil ?_ | refine c_region ?_ | refine c_seq ?_ | refine x_then ?_ | refine c_dec_f rfl (by first | omega ) ?_ | refine c_skip ?_ | refine c_ret ?_ | refine x_then_ret ?_ | refine c_not_t rfl (by first | omega ) ?_ | (refine r_call rfl rfl rfl (fun W hW => within_calls _ _ _ W) ?_) )
      exact x_ret rfl rfl (by repeat (first | exact Res.nil | (apply Res.tmp; rfl) | (apply Res.cell; rfl; exact (by repeat (first | exact List.Mem.head _ | apply List.Mem.tail)); rfl; rfl))) rfl (fun W hW => ⟨by rw [tkA_out h0 hb]; rfl, hW.below⟩)
  · repeat (first | refine l_val rfl rfl (by first | exact pureEval_ok rfl ) ?_ | refine l_nil ?_ | refine c_region ?_ | refine c_seq ?_ | refine x_then ?_ | refine c_dec_t rfl (by first | omega ) ?_ | refine c_ret ?_ | refine x_then_ret ?_ )
    exact x_ret rfl rfl (by repeat (first | exact Res.nil | (apply Res.tmp; rfl) | (apply Res.cell; rfl; exact (by repeat (first | exact List.Mem.head _ | apply List.Mem.tail)); rfl; rfl))) rfl (fun W hW => ⟨by rw [tkA_no h0]; rfl, hW.below⟩)

theorem St_bd {tk : Int → Int} {n : Int} (h : ∀ k, 0 ≤ k → k < n → 1 ≤ tk k ∧ tk k ≤ 65536) : ∀ k : Nat, (k : Int) ≤ n → 0 ≤ St tk k ∧ St tk k ≤ 65536 * k
  | 0, _ => by unfold St; omega
  | k + 1, hk => by
    have := St_bd h k (by omega)
    have := h k (by omega) (by omega)
    unfold St; omega
theorem sp_drop {len : Nat → Int} {k : Int} {ps : List Ps} {i : Nat} {p : Ps} (hp : ps[i]? = some p) : sp len (ps.drop i) i k = (if p.bar < k then len i else 0) + sp len (ps.drop (i + 1)) (i + 1) k := by
  rw [drop_cons hp]; rfl

set_option maxRecDepth 100000 in
set_option maxHeartbeats 4000000 in
theorem rBegin_calls (c : Clk) (bar : Int) (w : World) (hl : c.Sm) (hA : c.In w) :
    Calls Try.prog 15 ⟨[.agg ⟨c.v⟩, .int .i64 bar]⟩ w fun e w' => e = .returned (vB (bgA c bar)) ∧ Below w.heap.size w w' := by
  refine fun_enter Try.func15 rfl Try.ntmps15 rfl rfl (satW_nil w) ?_
  repeat (first | refine l_val rfl rfl (by first | exact pureEval_ok rfl | exact v_load rfl (by repeat (first | exact List.Mem.head _ | apply List.Mem.tail)) rfl (by rfl) ) ?_ | refine l_nil ?_ | refine c_region ?_ | refine c_seq ?_ | refine x_then ?_ | refine r_box rfl rfl rfl rfl (fun _ => ?_) | refine r_alloc rfl rfl rfl (by first | exact aggL ) (fun _ => ?_) )
  rename_i b2 b4
  refine r_call rfl rfl rfl (fun W hW => rcheckK c W hl (hA.sat hW)) ?_
  by_cases h0 : c.k = 0
  rotate_left
  · repeat (first | refine l_val rfl rfl (by first | exact pureEval_ok rfl | exact v_build rfl rfl (by rfl) ) ?_ | refine l_nil ?_ | refine c_region ?_ | refine c_seq ?_ | refine x_then ?_ | refine r_store rfl rfl rfl rfl rfl rfl rfl (by repeat (first | exact Upd.head | apply Upd.tail)) (by rfl) ?_ | refine c_dec_t rfl (by first | omega ) ?_ | refine c_ret ?_ | refine x_then_ret ?_ )
    exact x_ret rfl rfl (by repeat (first | exact Res.nil | (apply Res.tmp; rfl) | (apply Res.cell; rfl; exact (by repeat (first | exact List.Mem.head _ | apply List.Mem.tail)); rfl; rfl))) rfl (fun W hW => ⟨by rw [bgA_no h0]; rfl, hW.below⟩)
  have hok := chk_ok.1 h0
  have hn1 := hok.n1
  have hn2 := hok.n2
  by_cases hb : 0 ≤ bar ∧ bar ≤ c.n
  rotate_left
  · repeat (first | refine l_val rfl rfl (by first | exact pureEval_ok rfl | exact v_load rfl (by repeat (first | exact List.Mem.head _ | apply List.Mem.tail)) rfl (by rfl) | exact v_build rfl rfl (by rfl) ) ?_ | refine l_nil ?_ | refine c_region ?_ | refine c_seq ?_ | refine x_then ?_ | refine r_store rfl rfl rfl rfl rfl rfl rfl (by repeat (first | exact Upd.head | apply Upd.tail)) (by rfl) ?_ | refine c_dec_f rfl (by first | omega ) ?_ | refine c_skip ?_ | refine c_ret ?_ | refine x_then_ret ?_ | refine c_not_t rfl (by first | omega ) ?_ | (refine r_call rfl rfl rfl (fun W hW => within_calls _ _ _ W) ?_) )
    exact x_ret rfl rfl (by repeat (first | exact Res.nil | (apply Res.tmp; rfl) | (apply Res.cell; rfl; exact (by repeat (first | exact List.Mem.head _ | apply List.Mem.tail)); rfl; rfl))) rfl (fun W hW => ⟨by rw [bgA_out h0 hb]; rfl, hW.below⟩)
  have hv := bgA_in h0 hb
  rw [h0]
  rw [Bt_sum hok.ascP, Bt_sum hok.ascP, show ((bar.toNat : Nat) : Int) = bar by omega] at hv
  rw [hv]
  have hst := St_bd hok.bars
  have hlo := lo_bd hok
  have htk : ∀ k : Int, 0 ≤ k → k < c.n → 1 ≤ tk c.ts k ∧ tk c.ts k ≤ 65536 := hok.bars
  have hhead := ok_head hok
  have hasc := hok.asc
  have hl1 := hl.a
  have hl2 := hl.b
  clear hv h0 hok hl
  obtain ⟨hb1, hb2⟩ := hb
  obtain ⟨N, hN⟩ : ∃ N : Nat, bar = N := ⟨bar.toNat, by omega⟩
  subst hN
  rw [Int.toNat_natCast]
  obtain ⟨n, ts, ps, sp', A, B, C, ca, cb, cc⟩ := c
  dsimp only [Clk.v] at *
  repeat (first | refine l_val rfl rfl (by first | exact pureEval_ok rfl | exact v_load rfl (by repeat (first | exact List.Mem.head _ | apply List.Mem.tail)) rfl (by rfl) ) ?_ | refine l_nil ?_ | refine c_region ?_ | refine c_seq ?_ | refine x_then ?_ | refine c_false rfl ?_ | refine c_block ?_ | refine c_skip ?_ | refine c_not_f rfl (by first | omega ) ?_ | (refine r_call rfl rfl rfl (fun W hW => within_calls _ _ _ W) ?_) )
  refine c_loop (ι := Nat) (fun k => k ≤ N) (fun k => [(1, .int .i64 N), (2, .pointer (some ⟨b2, 0, none⟩)), (4, .pointer (some ⟨b4, 0, none⟩)), (7, .int .i64 (St (tk ts) k)), (8, .int .i64 k)])
    (fun _ => [(b4, .cells ⟨[.int .i64 0, .int .i64 0]⟩ 33 (0, 0)), (b2, .cells ⟨[.int .i64 n, .slice A ts.length ca, .slice B ps.length cb, .slice C sp'.length cc]⟩ 26 (0, 0))]) (fun k => N - k) 0 (by omega) (by repeat (first | exact EnvSub.nil | refine EnvSub.cons rfl (by first | rfl | (congr 1; done) | (exact congrArg (Value.int _) (by omega)) | (simp; done)) ?_)) (by repeat (first | exact MSub.nil | refine MSub.keep (by first | rfl | assumption) ?_ | refine MSub.drop ?_ | exact MSub.refl _)) ?_
  rintro k i1
  by_cases hlt : k < N
  · have h1 := hst k (by omega)
    have h2 := htk k (by omega) (by omega)
    have hsucc : St (tk ts) (k + 1) = St (tk ts) k + tk ts k := rfl
    clear hst htk hlo
    repeat (first | refine l_val rfl rfl (by first | exact pureEval_ok rfl | exact v_load rfl (by repeat (first | exact List.Mem.head _ | apply List.Mem.tail)) rfl (by rfl) ) ?_ | refine l_nil ?_ | refine c_region ?_ | refine c_seq ?_ | refine x_then ?_ | refine c_dec_t rfl (by first | omega ) ?_ | refine c_block ?_ | refine c_skip ?_ )
    refine r_call rfl rfl rfl (fun W hW => rticks_calls (⟨n, ts, ps, sp', A, B, C, ca, cb, cc⟩ : Clk) k W hl1 hn2 hhead hasc (by omega) (by omega) (hA.sat hW)) ?_
    dsimp only
    repeat (first | refine l_val rfl rfl (by first | exact v_add rfl rfl (by omega) (by omega) | exact pureEval_ok rfl ) ?_ | refine l_nil ?_ | refine c_region ?_ | refine x_then ?_ | refine x_block ?_ )
    exact x_back (k + 1) (by omega) (by omega) (by repeat (first | exact EnvSub.nil | refine EnvSub.cons rfl (by first | rfl | (congr 1; done) | (exact congrArg (Value.int _) (by omega)) | (simp; done)) ?_)) (by repeat (first | exact MSub.nil | refine MSub.keep (by first | rfl | assumption) ?_ | refine MSub.drop ?_ | exact MSub.refl _))
  have hkN : k = N := by omega
  subst hkN
  have h1 := hst k (by omega)
  obtain ⟨S, hS⟩ : ∃ S, St (tk ts) k = S := ⟨_, rfl⟩
  rw [hS] at h1 ⊢
  clear hst htk hasc hhead i1
  repeat (first | refine l_val rfl rfl (by first | exact pureEval_ok rfl | exact v_build rfl rfl (by rfl) ) ?_ | refine l_nil ?_ | refine c_region ?_ | refine c_seq ?_ | refine x_then ?_ | refine r_alloc rfl rfl rfl (by first | exact aggL ) (fun _ => ?_) | refine r_store rfl rfl rfl rfl rfl rfl rfl (by repeat (first | exact Upd.head | apply Upd.tail)) (by rfl) ?_ | refine c_dec_f rfl (by first | omega ) ?_ | refine c_block ?_ | refine c_exit ?_ | refine x_then_exit ?_ | refine x_block_same ?_ )
  rename_i b9
  refine c_loop (ι := Nat × Int × Int) (fun q => q.1 ≤ ps.length ∧ (0 ≤ q.2.1 ∧ q.2.1 ≤ 300000000 + 1048576 * q.1) ∧ (0 ≤ q.2.2 ∧ q.2.2 ≤ 300000000 + 1048576 * q.1) ∧ S + Tm.sp (loF ps) ps 0 k = q.2.1 + Tm.sp (loF ps) (ps.drop q.1) q.1 k ∧ S + Tm.sp (hiF ps) ps 0 k = q.2.2 + Tm.sp (hiF ps) (ps.drop q.1) q.1 k)
    (fun q => [(1, .int .i64 k), (2, .pointer (some ⟨b2, 0, none⟩)), (4, .pointer (some ⟨b4, 0, none⟩)), (9, .pointer (some ⟨b9, 0, none⟩)), (10, .int .i64 q.1)])
    (fun q => [(b9, .cells ⟨[.int .i64 q.2.1, .int .i64 q.2.2]⟩ 33 (0, 0)), (b4, .cells ⟨[.int .i64 0, .int .i64 0]⟩ 33 (0, 0)), (b2, .cells ⟨[.int .i64 n, .slice A ts.length ca, .slice B ps.length cb, .slice C sp'.length cc]⟩ 26 (0, 0))]) (fun q => ps.length - q.1) (0, S, S) ⟨by omega, by simp only; omega, by simp only; omega, rfl, rfl⟩ (by repeat (first | exact EnvSub.nil | refine EnvSub.cons rfl (by first | rfl | (congr 1; done) | (exact congrArg (Value.int _) (by omega)) | (simp; done)) ?_)) (by repeat (first | exact MSub.nil | refine MSub.keep (by first | rfl | assumption) ?_ | refine MSub.drop ?_ | exact MSub.refl _)) ?_
  rintro ⟨i, x, y⟩ ⟨i1, i2, i3, i4, i5⟩
  dsimp only at i1 i2 i3 i4 i5 ⊢
  by_cases hlt : i < ps.length
  · obtain ⟨p, hp⟩ : ∃ p, ps[i]? = some p := ⟨_, List.getElem?_eq_getElem hlt⟩
    obtain ⟨b', o', rfl, hc⟩ := ext_at hA.b hp
    have he := ext_of hc
    unfold psE at he
    have hp2 := hlo i hlt
    rw [sp_drop hp] at i4 i5
    have hlp : loF ps i = p.lo := by unfold loF; rw [getD_of hp]
    have hhp : hiF ps i = p.hi := by unfold hiF; rw [getD_of hp]
    rw [hlp, hhp] at hp2
    rw [hlp] at i4
    rw [hhp] at i5
    clear hlo
    by_cases hc : p.bar < k
    · rw [if_pos hc] at i4 i5
      have j4 : Unit → S + Tm.sp (loF ps) ps 0 k = x + p.lo + Tm.sp (loF ps) (ps.drop (i + 1)) (i + 1) k := fun _ => by rw [i4]; omega
      have j5 : Unit → S + Tm.sp (hiF ps) ps 0 k = y + p.hi + Tm.sp (hiF ps) (ps.drop (i + 1)) (i + 1) k := fun _ => by rw [i5]; omega
      clear i4 i5
      repeat (first | refine l_val rfl rfl (by first | exact v_add rfl rfl (by omega) (by omega) | exact pureEval_ok rfl | exact v_load rfl (by repeat (first | exact List.Mem.head _ | apply List.Mem.tail)) rfl (by rfl) | exact v_load_ext0 rfl (by assumption) rfl (by rfl) | exact v_index rfl rfl rfl rfl (by omega) (by omega) (by with_reducible first | exact idx4 _ _ _  ) ) ?_ | refine l_nil ?_ | refine c_region ?_ | refine c_seq ?_ | refine x_then ?_ | refine c_dec_t rfl (by first | omega ) ?_ | refine c_block ?_ | refine c_skip ?_ | refine x_block ?_ | refine c_cut rfl (by decide +kernel) ?_ | refine h_val rfl rfl (by first | exact v_add rfl rfl (by omega) (by omega) | exact pureEval_ok rfl | exact v_load rfl (by repeat (first | exact List.Mem.head _ | apply List.Mem.tail)) rfl (by rfl) | exact v_load_ext rfl (by assumption) rfl (by rfl) | exact v_index rfl rfl rfl rfl (by omega) (by omega) (by with_reducible first | exact idx4 _ _ _  ) ) ?_ | refine h_do1 rfl (by decide +kernel) (by decide +kernel) rfl rfl (by first | exact d_store rfl rfl rfl rfl rfl rfl (by repeat (first | exact Upd.head | apply Upd.tail)) (by rfl) ) ?_ )
      exact x_back (i + 1, x + p.lo, y + p.hi) ⟨hlt, by simp only; omega, by simp only; omega, j4 (), j5 ()⟩ (by simp only; omega) (by repeat (first | exact EnvSub.nil | refine EnvSub.cons rfl (by first | rfl | (congr 1; done) | (exact congrArg (Value.int _) (by omega)) | (simp; done)) ?_)) (by repeat (first | exact MSub.nil | refine MSub.keep (by first | rfl | assumption) ?_ | refine MSub.drop ?_ | exact MSub.refl _))
    · rw [if_neg hc, Int.zero_add] at i4 i5
      have j4 : Unit → S + Tm.sp (loF ps) ps 0 k = x + Tm.sp (loF ps) (ps.drop (i + 1)) (i + 1) k := fun _ => i4
      have j5 : Unit → S + Tm.sp (hiF ps) ps 0 k = y + Tm.sp (hiF ps) (ps.drop (i + 1)) (i + 1) k := fun _ => i5
      clear i4 i5
      repeat (first | refine l_val rfl rfl (by first | exact v_add rfl rfl (by omega) (by omega) | exact pureEval_ok rfl | exact v_load rfl (by repeat (first | exact List.Mem.head _ | apply List.Mem.tail)) rfl (by rfl) | exact v_load_ext0 rfl (by assumption) rfl (by rfl) | exact v_index rfl rfl rfl rfl (by omega) (by omega) (by with_reducible first | exact idx4 _ _ _  ) ) ?_ | refine l_nil ?_ | refine c_region ?_ | refine c_seq ?_ | refine x_then ?_ | refine c_dec_t rfl (by first | omega ) ?_ | refine c_dec_f rfl (by first | omega ) ?_ | refine c_block ?_ | refine c_skip ?_ | refine x_block ?_ )
      exact x_back (i + 1, x, y) ⟨hlt, by simp only; omega, by simp only; omega, j4 (), j5 ()⟩ (by simp only; omega) (by repeat (first | exact EnvSub.nil | refine EnvSub.cons rfl (by first | rfl | (congr 1; done) | (exact congrArg (Value.int _) (by omega)) | (simp; done)) ?_)) (by repeat (first | exact MSub.nil | refine MSub.keep (by first | rfl | assumption) ?_ | refine MSub.drop ?_ | exact MSub.refl _))
  have hi : i = ps.length := by omega
  subst hi
  have e1 : S + Tm.sp (loF ps) ps 0 k = x := by rw [i4, List.drop_length]; show x + 0 = x; omega
  have e2 : S + Tm.sp (hiF ps) ps 0 k = y := by rw [i5, List.drop_length]; show y + 0 = y; omega
  rw [e1, e2]
  clear i4 i5 e1 e2
  repeat (first | refine l_val rfl rfl (by first | exact pureEval_ok rfl | exact v_load rfl (by repeat (first | exact List.Mem.head _ | apply List.Mem.tail)) rfl (by rfl) ) ?_ | refine l_nil ?_ | refine c_region ?_ | refine c_seq ?_ | refine x_then ?_ | refine r_store rfl rfl rfl rfl rfl rfl rfl (by repeat (first | exact Upd.head | apply Upd.tail)) (by rfl) ?_ | refine c_dec_f rfl (by first | omega ) ?_ | refine c_ret ?_ | refine c_exit ?_ | refine x_then_exit ?_ | refine x_block_same ?_ )
  exact x_ret rfl rfl (by repeat (first | exact Res.nil | (apply Res.tmp; rfl) | (apply Res.cell; rfl; exact (by repeat (first | exact List.Mem.head _ | apply List.Mem.tail)); rfl; rfl))) rfl (fun W hW => ⟨rfl, hW.below⟩)
end R13
end Go.Proofs

set_option linter.unusedSectionVars false
set_option linter.unusedVariables false
set_option linter.unusedSimpArgs false
namespace Go.Proofs
open Go.RowKit Go.Kin Go.Kin.Tm
namespace R13
/-! ## Lengths -/
set_option maxRecDepth 100000 in
set_option maxHeartbeats 4000000 in
theorem rLengths_calls (c : Clk) (L : Option Addr) (cap : Nat) (l : List Int) (w : World) (hl : c.ps.length ≤ 5000) (hl2 : l.length ≤ 5000) (hA : c.In w) (hL : Kin.At w L 1 (l.map inE)) :
    Calls Try.prog 41 ⟨[.agg ⟨c.v⟩, .slice L l.length cap]⟩ w fun e w' => e = .returned (.bool (lensB c.ps l)) ∧ Below w.heap.size w w' := by
  refine fun_enter Try.func41 rfl Try.ntmps41 rfl rfl (satW_nil w) ?_
  obtain ⟨E, hE⟩ : ∃ E, lensB c.ps l = E := ⟨_, rfl⟩
  have hyes : Unit → lensB c.ps l = true → E = true := fun _ h => by rw [← hE, h]
  have hno : Unit → ¬ lensB c.ps l = true → E = false := fun _ h => by rw [← hE]; simpa using h
  rw [hE]
  clear hE
  obtain ⟨n, ts, ps, sp, A, B, C, ca, cb, cc⟩ := c
  have hB := hA.b
  clear hA
  dsimp only [Clk.v] at *
  by_cases hlen : l.length = ps.length
  rotate_left
  · have he := hno () fun h => hlen (lensB_iff.1 h).1
    clear hyes hno
    repeat (first | refine l_val rfl rfl (by first | exact pureEval_ok rfl | exact v_load rfl (by repeat (first | exact List.Mem.head _ | apply List.Mem.tail)) rfl (by rfl) ) ?_ | refine l_nil ?_ | refine c_region ?_ | refine c_seq ?_ | refine x_then ?_ | refine r_box rfl rfl rfl rfl (fun _ => ?_) | refine c_dec_t rfl (by first | omega ) ?_ | refine c_ret ?_ | refine x_then_ret ?_ )
    exact x_ret rfl rfl (by repeat (first | exact Res.nil | (apply Res.tmp; rfl) | (apply Res.cell; rfl; exact (by repeat (first | exact List.Mem.head _ | apply List.Mem.tail)); rfl; rfl))) rfl (fun W hW => ⟨by rw [he], hW.below⟩)
  repeat (first | refine l_val rfl rfl (by first | exact pureEval_ok rfl | exact v_load rfl (by repeat (first | exact List.Mem.head _ | apply List.Mem.tail)) rfl (by rfl) ) ?_ | refine l_nil ?_ | refine c_region ?_ | refine c_seq ?_ | refine x_then ?_ | refine r_box rfl rfl rfl rfl (fun _ => ?_) | refine c_dec_f rfl (by first | omega | exact fun h => h rfl ) ?_ | refine c_block ?_ | refine c_skip ?_ )
  rename_i b2
  refine c_loop (ι := Nat) (fun k => k ≤ ps.length ∧ (Unit → ∀ (i : Nat) (p : Ps) (x : Int), i < k → ps[i]? = some p → l[i]? = some x → p.lo ≤ x ∧ x ≤ p.hi)) (fun k => [(1, .slice L l.length cap), (2, .pointer (some ⟨b2, 0, none⟩)), (4, .bool false), (5, .int .i64 k)])
    (fun _ => [(b2, .cells ⟨[.int .i64 n, .slice A ts.length ca, .slice B ps.length cb, .slice C sp.length cc]⟩ 26 (0, 0))]) (fun k => ps.length - k) 0 ⟨by omega, fun _ i p x h => by omega⟩ (by repeat (first | exact EnvSub.nil | refine EnvSub.cons rfl (by first | rfl | (congr 1; done) | (exact congrArg (Value.int _) (by omega)) | (simp; done)) ?_)) (by repeat (first | exact MSub.nil | refine MSub.keep (by first | rfl | assumption) ?_ | refine MSub.drop ?_ | exact MSub.refl _)) ?_
  rintro k ⟨i1, i2⟩
  by_cases hlt : k < ps.length
  · obtain ⟨t, ht⟩ : ∃ t, ps[k]? = some t := ⟨_, List.getElem?_eq_getElem hlt⟩
    obtain ⟨x, hx⟩ : ∃ x, l[k]? = some x := ⟨_, List.getElem?_eq_getElem (by omega)⟩
    obtain ⟨b', o', rfl, hc⟩ := ext_at hB ht
    obtain ⟨b3, o3, rfl, hc3⟩ := ext_at hL hx
    have he := ext_of hc
    have he3 := ext_of hc3
    rw [Nat.mul_one] at he3
    unfold psE at he
    by_cases hg : t.lo ≤ x ∧ x ≤ t.hi
    · repeat (first | refine l_val rfl rfl (by first | exact v_add rfl rfl (by omega) (by omega) | exact pureEval_ok rfl ) ?_ | refine l_nil ?_ | refine c_region ?_ | refine c_seq ?_ | refine x_then ?_ | refine c_dec_t rfl (by first | omega ) ?_ | refine c_block ?_ | refine c_skip ?_ | refine x_block ?_ | refine c_reads rfl (by decide +kernel) ?_ | refine q_val rfl rfl (by first | exact pureEval_ok rfl | exact v_load rfl (by repeat (first | exact List.Mem.head _ | apply List.Mem.tail)) rfl (by rfl) | exact v_load_ext0 rfl (by assumption) rfl (by rfl) | exact v_load_ext rfl (by assumption) rfl (by rfl) | exact v_index rfl rfl rfl rfl (by omega) (by omega) (by with_reducible first | exact idx2 _ _  | exact idx4 _ _ _  ) ) ?_ | refine q_nil ?_ | refine c_not_f rfl (by first | omega ) ?_ | (refine q_call rfl rfl rfl (fun W hW => within_calls _ _ _ W) ?_) )
      refine x_back (k + 1) ⟨hlt, fun _ i p y h1 h2 h3 => ?_⟩ (by omega) (by repeat (first | exact EnvSub.nil | refine EnvSub.cons rfl (by first | rfl | (congr 1; done) | (exact congrArg (Value.int _) (by omega)) | (simp; done)) ?_)) (by repeat (first | exact MSub.nil | refine MSub.keep (by first | rfl | assumption) ?_ | refine MSub.drop ?_ | exact MSub.refl _))
      by_cases hik : i = k
      · subst hik; rw [ht] at h2; rw [hx] at h3; cases h2; cases h3; exact hg
      · exact i2 () i p y (by omega) h2 h3
    · have hE := hno () fun h => hg ((lensB_iff.1 h).2 k t x ht hx)
      repeat (first | refine l_val rfl rfl (by first | exact pureEval_ok rfl ) ?_ | refine l_nil ?_ | refine c_region ?_ | refine c_seq ?_ | refine x_then ?_ | refine c_dec_t rfl (by first | omega ) ?_ | refine c_block ?_ | refine c_skip ?_ | refine c_ret ?_ | refine x_then_ret ?_ | refine x_block_ret ?_ | refine c_reads rfl (by decide +kernel) ?_ | refine q_val rfl rfl (by first | exact pureEval_ok rfl | exact v_load rfl (by repeat (first | exact List.Mem.head _ | apply List.Mem.tail)) rfl (by rfl) | exact v_load_ext0 rfl (by assumption) rfl (by rfl) | exact v_load_ext rfl (by assumption) rfl (by rfl) | exact v_index rfl rfl rfl rfl (by omega) (by omega) (by with_reducible first | exact idx2 _ _  | exact idx4 _ _ _  ) ) ?_ | refine q_nil ?_ | refine c_not_t rfl (by first | omega ) ?_ | (refine q_call rfl rfl rfl (fun W hW => within_calls _ _ _ W) ?_) )
      exact x_ret rfl rfl (by repeat (first | exact Res.nil | (apply Res.tmp; rfl) | (apply Res.cell; rfl; exact (by repeat (first | exact List.Mem.head _ | apply List.Mem.tail)); rfl; rfl))) rfl (fun W hW => ⟨by rw [hE], hW.below⟩)
  have hk : k = ps.length := by omega
  subst hk
  have hE := hyes () (lensB_iff.2 ⟨hlen, fun i p x h1 h2 => i2 () i p x (List.getElem?_eq_some_iff.1 h1).1 h1 h2⟩)
  repeat (first | refine l_val rfl rfl (by first | exact pureEval_ok rfl ) ?_ | refine l_nil ?_ | refine c_region ?_ | refine c_seq ?_ | refine x_then ?_ | refine c_dec_f rfl (by first | omega ) ?_ | refine c_ret ?_ | refine c_exit ?_ | refine x_then_exit ?_ | refine x_block_same ?_ )
  exact x_ret rfl rfl (by repeat (first | exact Res.nil | (apply Res.tmp; rfl) | (apply Res.cell; rfl; exact (by repeat (first | exact List.Mem.head _ | apply List.Mem.tail)); rfl; rfl))) rfl (fun W hW => ⟨by rw [hE], hW.below⟩)

/-- the pause behind a bar -/
theorem after_calls (c : Clk) (L : Option Addr) (cap : Nat) (l : List Int) (k : Int) (w : World) (hl : c.ps.length ≤ 5000) (hlen : l.length = c.ps.length) (hA : c.In w) (hL : Kin.At w L 1 (l.map inE)) :
    Calls Try.prog 42 ⟨[.agg ⟨c.v⟩, .slice L l.length cap, .int .i64 k]⟩ w fun e w' => e = .returned (.int .i64 (pa (lenF l) c.ps 0 k)) ∧ Below w.heap.size w w' := by
  obtain ⟨n, ts, ps, sp, A, B, C, ca, cb, cc⟩ := c
  have hB := hA.b
  clear hA
  dsimp only [Clk.v] at *
  obtain ⟨R, hR⟩ : ∃ R, pa (lenF l) ps 0 k = R := ⟨_, rfl⟩
  rw [hR]
  refine fun_enter Try.func42 rfl Try.ntmps42 rfl rfl (satW_nil w) ?_
  repeat (first | refine l_val rfl rfl (by first | exact pureEval_ok rfl ) ?_ | refine l_nil ?_ | refine c_region ?_ | refine c_seq ?_ | refine x_then ?_ | refine r_box rfl rfl rfl rfl (fun _ => ?_) | refine c_block ?_ )
  rename_i b3
  refine c_loop (ι := Nat) (fun i => i ≤ ps.length ∧ R = pa (lenF l) (ps.drop i) i k) (fun i => [(1, .slice L l.length cap), (2, .int .i64 k), (3, .pointer (some ⟨b3, 0, none⟩)), (7, .int .i64 i)])
    (fun _ => [(b3, .cells ⟨[.int .i64 n, .slice A ts.length ca, .slice B ps.length cb, .slice C sp.length cc]⟩ 26 (0, 0))]) (fun i => ps.length - i) 0 ⟨by omega, hR.symm⟩ (by repeat (first | exact EnvSub.nil | refine EnvSub.cons rfl (by first | rfl | (congr 1; done) | (exact congrArg (Value.int _) (by omega)) | (simp; done)) ?_)) (by repeat (first | exact MSub.nil | refine MSub.keep (by first | rfl | assumption) ?_ | refine MSub.drop ?_ | exact MSub.refl _)) ?_
  rintro i ⟨i1, i2⟩
  by_cases hlt : i < ps.length
  · obtain ⟨t, ht⟩ : ∃ t, ps[i]? = some t := ⟨_, List.getElem?_eq_getElem hlt⟩
    obtain ⟨x, hx⟩ : ∃ x, l[i]? = some x := ⟨_, List.getElem?_eq_getElem (by omega)⟩
    obtain ⟨b', o', rfl, hc⟩ := ext_at hB ht
    obtain ⟨b4, o4, rfl, hc4⟩ := ext_at hL hx
    have he := ext_of hc
    have he3 := ext_of hc4
    rw [Nat.mul_one] at he3
    unfold psE at he
    rw [drop_cons ht] at i2
    unfold pa at i2
    by_cases hk : t.bar = k
    · rw [if_pos hk] at i2
      have hv : lenF l i = x := by unfold lenF; rw [List.getD_eq_getElem?_getD, hx]; rfl
      rw [hv] at i2
      repeat (first | refine l_val rfl rfl (by first | exact pureEval_ok rfl | exact v_load rfl (by repeat (first | exact List.Mem.head _ | apply List.Mem.tail)) rfl (by rfl) | exact v_load_ext0 rfl (by assumption) rfl (by rfl) | exact v_index rfl rfl rfl rfl (by omega) (by omega) (by with_reducible first | exact idx2 _ _  | exact idx4 _ _ _  ) ) ?_ | refine l_nil ?_ | refine c_region ?_ | refine c_seq ?_ | refine x_then ?_ | refine c_dec_t rfl (by first | omega ) ?_ | refine c_block ?_ | refine c_skip ?_ | refine c_ret ?_ | refine x_then_ret ?_ | refine x_block_ret ?_ )
      exact x_ret rfl rfl (by repeat (first | exact Res.nil | (apply Res.tmp; rfl) | (apply Res.cell; rfl; exact (by repeat (first | exact List.Mem.head _ | apply List.Mem.tail)); rfl; rfl))) rfl (fun W hW => ⟨by rw [i2], hW.below⟩)
    · rw [if_neg hk] at i2
      repeat (first | refine l_val rfl rfl (by first | exact v_add rfl rfl (by omega) (by omega) | exact pureEval_ok rfl | exact v_load rfl (by repeat (first | exact List.Mem.head _ | apply List.Mem.tail)) rfl (by rfl) | exact v_load_ext0 rfl (by assumption) rfl (by rfl) | exact v_index rfl rfl rfl rfl (by omega) (by omega) (by with_reducible first | exact idx4 _ _ _  ) ) ?_ | refine l_nil ?_ | refine c_region ?_ | refine c_seq ?_ | refine x_then ?_ | refine c_dec_t rfl (by first | omega ) ?_ | refine c_dec_f rfl (by first | omega ) ?_ | refine c_block ?_ | refine c_skip ?_ | refine x_block ?_ )
      exact x_back (i + 1) ⟨hlt, i2⟩ (by omega) (by repeat (first | exact EnvSub.nil | refine EnvSub.cons rfl (by first | rfl | (congr 1; done) | (exact congrArg (Value.int _) (by omega)) | (simp; done)) ?_)) (by repeat (first | exact MSub.nil | refine MSub.keep (by first | rfl | assumption) ?_ | refine MSub.drop ?_ | exact MSub.refl _))
  have hk : i = ps.length := by omega
  subst hk
  rw [List.drop_length] at i2
  have i3 : R = 0 := i2
  subst i3
  repeat (first | refine l_val rfl rfl (by first | exact pureEval_ok rfl ) ?_ | refine l_nil ?_ | refine c_region ?_ | refine c_seq ?_ | refine x_then ?_ | refine c_dec_f rfl (by first | omega ) ?_ | refine c_ret ?_ | refine c_exit ?_ | refine x_then_exit ?_ | refine x_block_same ?_ )
  exact x_ret rfl rfl (by repeat (first | exact Res.nil | (apply Res.tmp; rfl) | (apply Res.cell; rfl; exact (by repeat (first | exact List.Mem.head _ | apply List.Mem.tail)); rfl; rfl))) rfl (fun W hW => ⟨rfl, hW.below⟩)

theorem pa_le {len : Nat → Int} {M : Int} (hM : 0 ≤ M) : ∀ {ps : List Ps} {o : Nat} {k : Int}, (∀ i : Nat, i < ps.length → len (o + i) ≤ M) → pa len ps o k ≤ M
  | [], _, _, _ => hM
  | p :: l, o, k, h => by
    unfold pa
    split
    · exact h 0 (by simp)
    · refine pa_le hM fun i hi' => ?_
      have := h (i + 1) (by simp; omega)
      rwa [show o + (i + 1) = o + 1 + i by omega] at this
/-- valid lengths -/
theorem pa_lens {n : Int} {ts : List Tp} {ps : List Ps} {sp : List Sp} {l : List Int} (h : Ok n ts ps sp) (h2 : lensB ps l = true) (k : Int) : 0 ≤ pa (lenF l) ps 0 k ∧ pa (lenF l) ps 0 k ≤ 1048576 :=
  ⟨pa_ge fun i hi => by rw [Nat.zero_add]; exact (lens_bd h h2 i hi).1.1, pa_le (by omega) fun i hi => by rw [Nat.zero_add]; exact (lens_bd h h2 i hi).1.2⟩
theorem Bt_bd {tk pa : Int → Int} {n : Nat} (h : ∀ k : Nat, k < n → (1 ≤ tk k ∧ tk k ≤ 65536) ∧ 0 ≤ pa k ∧ pa k ≤ 1048576) : ∀ k : Nat, k ≤ n → 0 ≤ Bt tk pa k ∧ Bt tk pa k ≤ 1114112 * k
  | 0, _ => by show (0 : Int) ≤ 0 ∧ (0 : Int) ≤ _; omega
  | k + 1, hk => by
    have h1 := Bt_bd h k (by omega)
    have h2 := h k (by omega)
    rw [Bt_succ]; omega
theorem ok_both {n : Int} {ts : List Tp} {ps : List Ps} {sp : List Sp} {l : List Int} (h : Ok n ts ps sp) (h2 : lensB ps l = true) : ∀ k : Nat, k < n.toNat → (1 ≤ tk ts k ∧ tk ts k ≤ 65536) ∧ 0 ≤ pa (lenF l) ps 0 k ∧ pa (lenF l) ps 0 k ≤ 1048576 :=
  fun k hk => ⟨h.bars k (by omega) (by omega), pa_lens h h2 k⟩
theorem ok_fine {n : Int} {ts : List Tp} {ps : List Ps} {sp : List Sp} {l : List Int} (h : Ok n ts ps sp) (h2 : lensB ps l = true) : Fine (tk ts) (pa (lenF l) ps 0) n.toNat := fun k hk => by
  have := ok_both h h2 k hk
  omega
theorem lnA_no {c : Clk} {l : List Int} (h : lgE c l ≠ 0) : lnA c l = (0, lgE c l) := if_pos h
theorem lnA_yes {c : Clk} {l : List Int} (h : lgE c l = 0) : lnA c l = (Bt (tk c.ts) (pa (lenF l) c.ps 0) c.n.toNat, 0) := by unfold lnA; rw [if_neg (by simp [h])]

end R13
end Go.Proofs

set_option linter.unusedSectionVars false
set_option linter.unusedVariables false
set_option linter.unusedSimpArgs false
namespace Go.Proofs
open Go.RowKit Go.Kin Go.Kin.Tm
namespace R13
set_option maxRecDepth 100000 in
set_option maxHeartbeats 4000000 in
theorem rLength_calls (c : Clk) (L : Option Addr) (cap : Nat) (l : List Int) (w : World) (hl : c.Sm) (hl2 : l.length ≤ 5000) (hA : c.In w) (hL : Kin.At w L 1 (l.map inE)) :
    Calls Try.prog 19 ⟨[.agg ⟨c.v⟩, .slice L l.length cap]⟩ w fun e w' => e = .returned (v2 (lnA c l)) ∧ Below w.heap.size w w' := by
  refine fun_enter Try.func19 rfl Try.ntmps19 rfl rfl (satW_nil w) ?_
  repeat (first | refine l_val rfl rfl (by first | exact pureEval_ok rfl | exact v_load rfl (by repeat (first | exact List.Mem.head _ | apply List.Mem.tail)) rfl (by rfl) ) ?_ | refine l_nil ?_ | refine c_region ?_ | refine c_seq ?_ | refine x_then ?_ | refine r_box rfl rfl rfl rfl (fun _ => ?_) )
  rename_i b2
  refine r_call rfl rfl rfl (fun W hW => rcheckK c W hl (hA.sat hW)) ?_
  by_cases h0 : c.k = 0
  rotate_left
  · have hv : lnA c l = (0, c.k) := by rw [lnA_no (by rw [lgE_no h0]; exact h0), lgE_no h0]
    repeat (first | refine l_val rfl rfl (by first | exact pureEval_ok rfl ) ?_ | refine l_nil ?_ | refine c_region ?_ | refine c_seq ?_ | refine x_then ?_ | refine c_dec_t rfl (by first | omega ) ?_ | refine c_ret ?_ | refine x_then_ret ?_ )
    exact x_ret rfl rfl (by repeat (first | exact Res.nil | (apply Res.tmp; rfl) | (apply Res.cell; rfl; exact (by repeat (first | exact List.Mem.head _ | apply List.Mem.tail)); rfl; rfl))) rfl (fun W hW => ⟨by rw [hv]; rfl, hW.below⟩)
  repeat (first | refine l_val rfl rfl (by first | exact pureEval_ok rfl | exact v_load rfl (by repeat (first | exact List.Mem.head _ | apply List.Mem.tail)) rfl (by rfl) ) ?_ | refine l_nil ?_ | refine c_region ?_ | refine c_seq ?_ | refine x_then ?_ | refine c_dec_f rfl (by first | omega | exact fun h => h rfl ) ?_ | refine c_skip ?_ )
  refine r_call rfl rfl rfl (fun W hW => rLengths_calls c L cap l W hl.b hl2 (hA.sat hW) (hL.sat hW)) ?_
  by_cases h1 : lensB c.ps l = true
  rotate_left
  · have hv : lnA c l = (0, 1) := by rw [lnA_no (by rw [lgE_bad h0 h1]; decide), lgE_bad h0 h1]
    rw [show lensB c.ps l = false by simpa using h1]
    repeat (first | refine l_val rfl rfl (by first | exact pureEval_ok rfl ) ?_ | refine l_nil ?_ | refine c_region ?_ | refine c_seq ?_ | refine x_then ?_ | refine c_true rfl ?_ | refine c_ret ?_ | refine x_then_ret ?_ )
    exact x_ret rfl rfl (by repeat (first | exact Res.nil | (apply Res.tmp; rfl) | (apply Res.cell; rfl; exact (by repeat (first | exact List.Mem.head _ | apply List.Mem.tail)); rfl; rfl))) rfl (fun W hW => ⟨by rw [hv]; rfl, hW.below⟩)
  have hok := chk_ok.1 h0
  have hlen := (lensB_iff.1 h1).1
  have hv := lnA_yes (lgE_yes h0 h1)
  have hb := ok_both hok h1
  have hB := Bt_bd hb
  have hn1 := hok.n1
  have hn2 := hok.n2
  have hlb := hl.b
  have hhead := ok_head hok
  have hasc := hok.asc
  have hla := hl.a
  rw [hv, h1]
  clear hv hok h1 h0 hl
  obtain ⟨n, ts, ps, sp, A, B, C, ca, cb, cc⟩ := c
  dsimp only [Clk.v] at *
  obtain ⟨M, hM⟩ : ∃ M, n.toNat = M := ⟨_, rfl⟩
  rw [hM] at hb hB ⊢
  obtain rfl : n = M := by omega
  repeat (first | refine l_val rfl rfl (by first | exact pureEval_ok rfl ) ?_ | refine l_nil ?_ | refine c_region ?_ | refine c_seq ?_ | refine x_then ?_ | refine c_false rfl ?_ | refine c_block ?_ | refine c_skip ?_ )
  refine c_loop (ι := Nat) (fun k => k ≤ M) (fun k => [(1, .slice L l.length cap), (2, .pointer (some ⟨b2, 0, none⟩)), (7, .int .i64 (Bt (tk ts) (pa (lenF l) ps 0) k)), (8, .int .i64 k)])
    (fun _ => [(b2, .cells ⟨[.int .i64 M, .slice A ts.length ca, .slice B ps.length cb, .slice C sp.length cc]⟩ 26 (0, 0))]) (fun k => M - k) 0 (by omega) (by repeat (first | exact EnvSub.nil | refine EnvSub.cons rfl (by first | rfl | (congr 1; done) | (exact congrArg (Value.int _) (by omega)) | (simp; done)) ?_)) (by repeat (first | exact MSub.nil | refine MSub.keep (by first | rfl | assumption) ?_ | refine MSub.drop ?_ | exact MSub.refl _)) ?_
  intro k hk
  by_cases hlt : k < M
  · have h1 := hB k hk
    obtain ⟨⟨h2, h3⟩, h4, h5⟩ := hb k hlt
    have hs := Bt_succ (tk := tk ts) (pa := pa (lenF l) ps 0) k
    obtain ⟨S, hS⟩ : ∃ S, Bt (tk ts) (pa (lenF l) ps 0) k = S := ⟨_, rfl⟩
    obtain ⟨S', hS'⟩ : ∃ S', Bt (tk ts) (pa (lenF l) ps 0) (k + 1) = S' := ⟨_, rfl⟩
    obtain ⟨T, hT⟩ : ∃ T, tk ts k = T := ⟨_, rfl⟩
    obtain ⟨X, hX⟩ : ∃ X, pa (lenF l) ps 0 k = X := ⟨_, rfl⟩
    have c1 : ∀ W, (⟨M, ts, ps, sp, A, B, C, ca, cb, cc⟩ : Clk).In W → _ := fun W hW => rticks_calls (⟨M, ts, ps, sp, A, B, C, ca, cb, cc⟩ : Clk) k W hla hn2 hhead hasc (by omega) (by omega) hW
    have c2 : ∀ W, (⟨M, ts, ps, sp, A, B, C, ca, cb, cc⟩ : Clk).In W → Kin.At W L 1 (l.map inE) → _ := fun W hW hW2 => after_calls (⟨M, ts, ps, sp, A, B, C, ca, cb, cc⟩ : Clk) L cap l k W hlb hlen hW hW2
    simp only [hT, hX] at c1 c2
    rw [hS] at h1 ⊢
    rw [hS, hS', hT, hX] at hs
    rw [hT] at h2 h3
    rw [hX] at h4 h5
    clear hb hB
    repeat (first | refine l_val rfl rfl (by first | exact v_add rfl rfl (by omega) (by omega) | exact pureEval_ok rfl | exact v_load rfl (by repeat (first | exact List.Mem.head _ | apply List.Mem.tail)) rfl (by rfl) ) ?_ | refine l_nil ?_ | refine c_region ?_ | refine c_seq ?_ | refine x_then ?_ | refine c_dec_t rfl (by first | omega ) ?_ | refine c_block ?_ | refine c_skip ?_ | refine x_block ?_ | refine c_reads rfl (by decide +kernel) ?_ | refine q_val rfl rfl (by first | exact v_add rfl rfl (by omega) (by omega) | exact pureEval_ok rfl | exact v_load rfl (by repeat (first | exact List.Mem.head _ | apply List.Mem.tail)) rfl (by rfl) ) ?_ | refine q_nil ?_ | (refine q_call rfl rfl rfl (fun W hW => c1 W (hA.sat hW)) ?_) | (refine q_call rfl rfl rfl (fun W hW => c2 W (hA.sat hW) (hL.sat hW)) ?_) )
    refine x_back (k + 1) hlt (by omega) ?_ (by repeat (first | exact MSub.nil | refine MSub.keep (by first | rfl | assumption) ?_ | refine MSub.drop ?_ | exact MSub.refl _))
    rw [hS', hs]
    exact (by repeat (first | exact EnvSub.nil | refine EnvSub.cons rfl (by first | rfl | (congr 1; done) | (exact congrArg (Value.int _) (by omega)) | (simp; done)) ?_))
  have hk : k = M := by omega
  subst hk
  repeat (first | refine l_val rfl rfl (by first | exact pureEval_ok rfl | exact v_load rfl (by repeat (first | exact List.Mem.head _ | apply List.Mem.tail)) rfl (by rfl) ) ?_ | refine l_nil ?_ | refine c_region ?_ | refine c_seq ?_ | refine x_then ?_ | refine c_dec_f rfl (by first | omega ) ?_ | refine c_ret ?_ | refine c_exit ?_ | refine x_then_exit ?_ | refine x_block_same ?_ )
  exact x_ret rfl rfl (by repeat (first | exact Res.nil | (apply Res.tmp; rfl) | (apply Res.cell; rfl; exact (by repeat (first | exact List.Mem.head _ | apply List.Mem.tail)); rfl; rfl))) rfl (fun W hW => ⟨rfl, hW.below⟩)

end R13
end Go.Proofs

set_option linter.unusedSectionVars false
set_option linter.unusedVariables false
set_option linter.unusedSimpArgs false
namespace Go.Proofs
open Go.RowKit Go.Kin Go.Kin.Tm
namespace R13
set_option maxRecDepth 100000 in
set_option maxHeartbeats 4000000 in
theorem rLocate_calls (c : Clk) (L : Option Addr) (cap : Nat) (l : List Int) (t : Int) (w : World) (hl : c.Sm) (hl2 : l.length ≤ 5000) (hA : c.In w) (hL : Kin.At w L 1 (l.map inE)) :
    Calls Try.prog 21 ⟨[.agg ⟨c.v⟩, .slice L l.length cap, .int .i64 t]⟩ w fun e w' => e = .returned (v4 (lcA c l t)) ∧ Below w.heap.size w w' := by
  refine fun_enter Try.func21 rfl Try.ntmps21 rfl rfl (satW_nil w) ?_
  repeat (first | refine l_val rfl rfl (by first | exact pureEval_ok rfl | exact v_load rfl (by repeat (first | exact List.Mem.head _ | apply List.Mem.tail)) rfl (by rfl) ) ?_ | refine l_nil ?_ | refine c_region ?_ | refine c_seq ?_ | refine x_then ?_ | refine r_box rfl rfl rfl rfl (fun _ => ?_) )
  rename_i b3
  refine r_call rfl rfl rfl (fun W hW => rLength_calls c L cap l W hl hl2 (hA.sat hW) (hL.sat hW)) ?_
  by_cases h0 : lgE c l = 0
  rotate_left
  · have hv := lcA_no (t := t) h0
    rw [lnA_no h0]
    repeat (first | refine l_val rfl rfl (by first | exact pureEval_ok rfl ) ?_ | refine l_nil ?_ | refine c_region ?_ | refine c_seq ?_ | refine x_then ?_ | refine c_dec_t rfl (by first | omega ) ?_ | refine c_ret ?_ | refine x_then_ret ?_ )
    exact x_ret rfl rfl (by repeat (first | exact Res.nil | (apply Res.tmp; rfl) | (apply Res.cell; rfl; exact (by repeat (first | exact List.Mem.head _ | apply List.Mem.tail)); rfl; rfl))) rfl (fun W hW => ⟨by rw [hv]; rfl, hW.below⟩)
  obtain ⟨hok, h1⟩ := lgE_0 h0
  have hlen := (lensB_iff.1 h1).1
  have hf := ok_fine hok h1
  have hb := ok_both hok h1
  have hB := Bt_bd hb
  have hn1 := hok.n1
  have hn2 := hok.n2
  have hN := hB c.n.toNat (Nat.le_refl _)
  rw [lnA_yes h0]
  by_cases hr : 0 ≤ t ∧ t < Bt (tk c.ts) (pa (lenF l) c.ps 0) c.n.toNat
  rotate_left
  · have hv := lcA_none h0 (locA_out (t := t) hf (by omega))
    rw [hv]
    obtain ⟨R, hR⟩ : ∃ R, Bt (tk c.ts) (pa (lenF l) c.ps 0) c.n.toNat = R := ⟨_, rfl⟩
    rw [hR] at hN hr ⊢
    have hr' : ¬ (0 ≤ t ∧ t ≤ R - 1) := by omega
    clear hb hB hf hr
    repeat (first | refine l_val rfl rfl (by first | exact v_sub rfl rfl (by omega) (by omega) | exact pureEval_ok rfl ) ?_ | refine l_nil ?_ | refine c_region ?_ | refine c_seq ?_ | refine x_then ?_ | refine c_false rfl ?_ | refine c_skip ?_ | refine c_ret ?_ | refine x_then_ret ?_ | refine c_not_t rfl (by first | omega ) ?_ | (refine r_call rfl rfl rfl (fun W hW => within_calls _ _ _ W) ?_) )
    exact x_ret rfl rfl (by repeat (first | exact Res.nil | (apply Res.tmp; rfl) | (apply Res.cell; rfl; exact (by repeat (first | exact List.Mem.head _ | apply List.Mem.tail)); rfl; rfl))) rfl (fun W hW => ⟨rfl, hW.below⟩)
  obtain ⟨r1, r2⟩ := hr
  obtain ⟨j, j1, j2, j3⟩ := find_bar r1 r2
  have hv := lcA_some h0 (locA_in hf r1 j1 j2 j3)
  rw [hv]
  have hlb := hl.b
  have hhead := ok_head hok
  have hasc := hok.asc
  have hla := hl.a
  have hmono : Unit → ∀ k, k < j → Bt (tk c.ts) (pa (lenF l) c.ps 0) (k + 1) ≤ t := fun _ k hk => by
    have := Bt_mono hf (show k + 1 ≤ j by omega) (by omega)
    omega
  have hans : Unit → ans (tk c.ts) (pa (lenF l) c.ps 0) j t = if t < Bt (tk c.ts) (pa (lenF l) c.ps 0) j + tk c.ts j then ((j : Int), t - Bt (tk c.ts) (pa (lenF l) c.ps 0) j, true) else ((j : Int), t - (Bt (tk c.ts) (pa (lenF l) c.ps 0) j + tk c.ts j), false) := fun _ => rfl
  have hr' : 0 ≤ t ∧ t ≤ Bt (tk c.ts) (pa (lenF l) c.ps 0) c.n.toNat - 1 := by omega
  clear hv hok h1 h0 hl hf
  obtain ⟨n, ts, ps, sp, A, B, C, ca, cb, cc⟩ := c
  dsimp only [Clk.v] at *
  obtain ⟨M, hM⟩ : ∃ M, n.toNat = M := ⟨_, rfl⟩
  rw [hM] at hb hB hN hr' r2 j1 ⊢
  obtain rfl : n = M := by omega
  obtain ⟨R, hR⟩ : ∃ R, Bt (tk ts) (pa (lenF l) ps 0) M = R := ⟨_, rfl⟩
  rw [hR] at hN r2 hr' ⊢
  repeat (first | refine l_val rfl rfl (by first | exact v_sub rfl rfl (by omega) (by omega) | exact pureEval_ok rfl ) ?_ | refine l_nil ?_ | refine c_region ?_ | refine c_seq ?_ | refine x_then ?_ | refine c_false rfl ?_ | refine c_block ?_ | refine c_skip ?_ | refine c_not_f rfl (by first | omega ) ?_ | (refine r_call rfl rfl rfl (fun W hW => within_calls _ _ _ W) ?_) )
  refine c_loop (ι := Nat) (fun k => k ≤ j) (fun k => [(1, .slice L l.length cap), (2, .int .i64 t), (3, .pointer (some ⟨b3, 0, none⟩)), (12, .int .i64 (Bt (tk ts) (pa (lenF l) ps 0) k)), (13, .int .i64 k)])
    (fun _ => [(b3, .cells ⟨[.int .i64 M, .slice A ts.length ca, .slice B ps.length cb, .slice C sp.length cc]⟩ 26 (0, 0))]) (fun k => M - k) 0 (by omega) (by repeat (first | exact EnvSub.nil | refine EnvSub.cons rfl (by first | rfl | (congr 1; done) | (exact congrArg (Value.int _) (by omega)) | (simp; done)) ?_)) (by repeat (first | exact MSub.nil | refine MSub.keep (by first | rfl | assumption) ?_ | refine MSub.drop ?_ | exact MSub.refl _)) ?_
  intro k hk
  have hlt : k < M := by omega
  have h1 := hB k (by omega)
  obtain ⟨⟨h2, h3⟩, h4, h5⟩ := hb k hlt
  have hs := Bt_succ (tk := tk ts) (pa := pa (lenF l) ps 0) k
  by_cases hkj : k < j
  · have hm := hmono () k hkj
    obtain ⟨S, hS⟩ : ∃ S, Bt (tk ts) (pa (lenF l) ps 0) k = S := ⟨_, rfl⟩
    obtain ⟨S', hS'⟩ : ∃ S', Bt (tk ts) (pa (lenF l) ps 0) (k + 1) = S' := ⟨_, rfl⟩
    obtain ⟨T, hT⟩ : ∃ T, tk ts k = T := ⟨_, rfl⟩
    obtain ⟨X, hX⟩ : ∃ X, pa (lenF l) ps 0 k = X := ⟨_, rfl⟩
    have c1 : ∀ W, (⟨M, ts, ps, sp, A, B, C, ca, cb, cc⟩ : Clk).In W → _ := fun W hW => rticks_calls (⟨M, ts, ps, sp, A, B, C, ca, cb, cc⟩ : Clk) k W hla hn2 hhead hasc (by omega) (by omega) hW
    have c2 : ∀ W, (⟨M, ts, ps, sp, A, B, C, ca, cb, cc⟩ : Clk).In W → Kin.At W L 1 (l.map inE) → _ := fun W hW hW2 => after_calls (⟨M, ts, ps, sp, A, B, C, ca, cb, cc⟩ : Clk) L cap l k W hlb hlen hW hW2
    simp only [hT, hX] at c1 c2
    rw [hS] at h1 ⊢
    rw [hS, hS', hT, hX] at hs
    rw [hT] at h2 h3
    rw [hX] at h4 h5
    rw [hS'] at hm
    clear hb hB j2 j3 hans hmono
    repeat (first | refine l_val rfl rfl (by first | exact v_add rfl rfl (by omega) (by omega) | exact pureEval_ok rfl | exact v_load rfl (by repeat (first | exact List.Mem.head _ | apply List.Mem.tail)) rfl (by rfl) ) ?_ | refine l_nil ?_ | refine c_region ?_ | refine c_seq ?_ | refine x_then ?_ | refine c_dec_t rfl (by first | omega ) ?_ | refine c_dec_f rfl (by first | omega | exact fun h => h rfl ) ?_ | refine c_block ?_ | refine c_skip ?_ | refine x_block ?_ | (refine r_call rfl rfl rfl (fun W hW => c1 W (hA.sat hW)) ?_) | (refine r_call rfl rfl rfl (fun W hW => c2 W (hA.sat hW) (hL.sat hW)) ?_) )
    refine x_back (k + 1) hkj (by omega) ?_ (by repeat (first | exact MSub.nil | refine MSub.keep (by first | rfl | assumption) ?_ | refine MSub.drop ?_ | exact MSub.refl _))
    rw [hS', hs]
    exact (by repeat (first | exact EnvSub.nil | refine EnvSub.cons rfl (by first | rfl | (congr 1; done) | (exact congrArg (Value.int _) (by omega)) | (simp; done)) ?_))
  obtain rfl : k = j := by omega
  have hans := hans ()
  have hlc : ((k : Int), t - Bt (tk ts) (pa (lenF l) ps 0) k, true) = ((k : Int), t - Bt (tk ts) (pa (lenF l) ps 0) k, true) := rfl
  obtain ⟨S, hS⟩ : ∃ S, Bt (tk ts) (pa (lenF l) ps 0) k = S := ⟨_, rfl⟩
  obtain ⟨S', hS'⟩ : ∃ S', Bt (tk ts) (pa (lenF l) ps 0) (k + 1) = S' := ⟨_, rfl⟩
  obtain ⟨T, hT⟩ : ∃ T, tk ts k = T := ⟨_, rfl⟩
  obtain ⟨X, hX⟩ : ∃ X, pa (lenF l) ps 0 k = X := ⟨_, rfl⟩
  obtain ⟨V, hV⟩ : ∃ V, ans (tk ts) (pa (lenF l) ps 0) k t = V := ⟨_, rfl⟩
  have c1 : ∀ W, (⟨M, ts, ps, sp, A, B, C, ca, cb, cc⟩ : Clk).In W → _ := fun W hW => rticks_calls (⟨M, ts, ps, sp, A, B, C, ca, cb, cc⟩ : Clk) k W hla hn2 hhead hasc (by omega) (by omega) hW
  have c2 : ∀ W, (⟨M, ts, ps, sp, A, B, C, ca, cb, cc⟩ : Clk).In W → Kin.At W L 1 (l.map inE) → _ := fun W hW hW2 => after_calls (⟨M, ts, ps, sp, A, B, C, ca, cb, cc⟩ : Clk) L cap l k W hlb hlen hW hW2
  simp only [hT, hX] at c1 c2
  rw [hV] at hans ⊢
  rw [hS] at h1 j2 ⊢
  rw [hS, hT] at hans
  rw [hS, hS', hT, hX] at hs
  rw [hS'] at j3
  rw [hT] at h2 h3
  rw [hX] at h4 h5
  clear hb hB hmono hlc
  by_cases hp : t < S + T
  · rw [if_pos hp] at hans
    subst hans
    clear hV
    repeat (first | refine l_val rfl rfl (by first | exact v_add rfl rfl (by omega) (by omega) | exact v_sub rfl rfl (by omega) (by omega) | exact pureEval_ok rfl | exact v_load rfl (by repeat (first | exact List.Mem.head _ | apply List.Mem.tail)) rfl (by rfl) ) ?_ | refine l_nil ?_ | refine c_region ?_ | refine c_seq ?_ | refine x_then ?_ | refine c_dec_t rfl (by first | omega ) ?_ | refine c_block ?_ | refine c_skip ?_ | refine c_ret ?_ | refine x_then_ret ?_ | refine x_block_ret ?_ | (refine r_call rfl rfl rfl (fun W hW => c1 W (hA.sat hW)) ?_) )
    exact x_ret rfl rfl (by repeat (first | exact Res.nil | (apply Res.tmp; rfl) | (apply Res.cell; rfl; exact (by repeat (first | exact List.Mem.head _ | apply List.Mem.tail)); rfl; rfl))) rfl (fun W hW => ⟨rfl, hW.below⟩)
  · rw [if_neg hp] at hans
    subst hans
    clear hV
    repeat (first | refine l_val rfl rfl (by first | exact v_add rfl rfl (by omega) (by omega) | exact v_sub rfl rfl (by omega) (by omega) | exact pureEval_ok rfl | exact v_load rfl (by repeat (first | exact List.Mem.head _ | apply List.Mem.tail)) rfl (by rfl) ) ?_ | refine l_nil ?_ | refine c_region ?_ | refine c_seq ?_ | refine x_then ?_ | refine c_dec_t rfl (by first | omega ) ?_ | refine c_dec_f rfl (by first | omega ) ?_ | refine c_block ?_ | refine c_skip ?_ | refine c_ret ?_ | refine x_then_ret ?_ | refine x_block_ret ?_ | (refine r_call rfl rfl rfl (fun W hW => c1 W (hA.sat hW)) ?_) | (refine r_call rfl rfl rfl (fun W hW => c2 W (hA.sat hW) (hL.sat hW)) ?_) )
    exact x_ret rfl rfl (by repeat (first | exact Res.nil | (apply Res.tmp; rfl) | (apply Res.cell; rfl; exact (by repeat (first | exact List.Mem.head _ | apply List.Mem.tail)); rfl; rfl))) rfl (fun W hW => ⟨rfl, hW.below⟩)

end R13
end Go.Proofs

set_option linter.unusedSectionVars false
set_option linter.unusedVariables false
set_option linter.unusedSimpArgs false
namespace Go.Proofs
open Go.RowKit Go.Kin Go.Kin.Tm
namespace R13
/-! ## At -/
theorem chkR_eq (N D : Int) : R12.chkR N D = R12.chkE N D := rfl
theorem quo_low {N D T : Int} (hN : 0 ≤ N) (hD : 1 ≤ D) (hT : 0 ≤ T) (hb : N * T ≤ 70368744177664) : IntKind.i64.wrap ((N * T).tdiv D) = lowA N D T := by
  have h0 : 0 ≤ N * T := Int.mul_nonneg hN hT
  have h1 : (N * T).tdiv D = lowA N D T := Int.tdiv_eq_ediv_of_nonneg h0
  have h2 : lowA N D T ≤ 70368744177664 := Int.le_trans (Int.ediv_le_self _ h0) hb
  have h3 := low_nonneg (D := D) (by omega) hN hT
  rw [h1, wrap_i64 (by omega) (by omega)]
theorem quo_hig {N D T : Int} (hN : 0 ≤ N) (hD : 1 ≤ D) (hD2 : D ≤ 1073741824) (hT : 0 ≤ T) (hb : N * T ≤ 70368744177664) : IntKind.i64.wrap ((N * T + D - 1).tdiv D) = higA N D T := by
  have h0 : 0 ≤ N * T := Int.mul_nonneg hN hT
  have h1 : (N * T + D - 1).tdiv D = higA N D T := by rw [Int.tdiv_eq_ediv_of_nonneg (by omega), higA_eq (by omega)]
  obtain ⟨h2, h3⟩ := low_hig (N := N) (n := T) (D := D) (by omega)
  have h4 : lowA N D T ≤ 70368744177664 := Int.le_trans (Int.ediv_le_self _ h0) hb
  have h5 := low_nonneg (D := D) (by omega) hN hT
  rw [h1, wrap_i64 (by omega) (by omega)]
set_option maxRecDepth 100000 in
set_option maxHeartbeats 4000000 in
theorem rAt_calls (c : Clk) (bar N D : Int) (w : World) (hl : c.Sm) (hA : c.In w) (hN : -9223372036854775808 ≤ N ∧ N ≤ 9223372036854775807) (hD : -9223372036854775808 ≤ D ∧ D ≤ 9223372036854775807) :
    Calls Try.prog 23 ⟨[.agg ⟨c.v⟩, .int .i64 bar, .agg ⟨[.int .i64 N, .int .i64 D]⟩]⟩ w fun e w' => e = .returned (v3 (atA c bar N D)) ∧ Below w.heap.size w w' := by
  have hT := fun W hA => rTicks_calls c bar W hl hA
  have hbd := tkA_bd (c := c) (bar := bar)
  unfold atA
  generalize tkA c bar = p at *
  obtain ⟨T, E⟩ := p
  simp only [v2] at hT
  dsimp only at *
  refine fun_enter Try.func23 rfl Try.ntmps23 rfl rfl (satW_nil w) ?_
  repeat (first | refine l_val rfl rfl (by first | exact pureEval_ok rfl | exact v_load rfl (by repeat (first | exact List.Mem.head _ | apply List.Mem.tail)) rfl (by rfl) ) ?_ | refine l_nil ?_ | refine c_region ?_ | refine c_seq ?_ | refine x_then ?_ | refine r_box rfl rfl rfl rfl (fun _ => ?_) )
  refine r_call rfl rfl rfl (fun W hW => hT W (hA.sat hW)) ?_
  clear hT
  by_cases hE : E = 0
  rotate_left
  · repeat (first | refine l_val rfl rfl (by first | exact pureEval_ok rfl ) ?_ | refine l_nil ?_ | refine c_region ?_ | refine c_seq ?_ | refine x_then ?_ | refine c_dec_t rfl (by first | omega ) ?_ | refine c_ret ?_ | refine x_then_ret ?_ )
    exact x_ret rfl rfl (by repeat (first | exact Res.nil | (apply Res.tmp; rfl) | (apply Res.cell; rfl; exact (by repeat (first | exact List.Mem.head _ | apply List.Mem.tail)); rfl; rfl))) rfl (fun W hW => ⟨by rw [if_pos hE]; rfl, hW.below⟩)
  subst hE
  obtain ⟨t1, t2⟩ := hbd rfl
  clear hbd
  rw [if_neg (by simp)]
  repeat (first | refine l_val rfl rfl (by first | exact pureEval_ok rfl | exact v_load rfl (by repeat (first | exact List.Mem.head _ | apply List.Mem.tail)) rfl (by rfl) ) ?_ | refine l_nil ?_ | refine c_region ?_ | refine c_seq ?_ | refine x_then ?_ | refine c_false rfl ?_ | refine c_skip ?_ )
  refine r_call rfl rfl rfl (fun W hW => chkR_eq N D ▸ R12.rcheck_any N D W) ?_
  cases hk : R12.okB N D with
  | false =>
    have h120 : R12.chkE N D = 120 := by unfold R12.chkE; rw [hk]; rfl
    rw [h120, if_neg (by decide)]
    repeat (first | refine l_val rfl rfl (by first | exact pureEval_ok rfl ) ?_ | refine l_nil ?_ | refine c_region ?_ | refine c_seq ?_ | refine x_then ?_ | refine c_true rfl ?_ | refine c_ret ?_ | refine x_then_ret ?_ )
    exact x_ret rfl rfl (by repeat (first | exact Res.nil | (apply Res.tmp; rfl) | (apply Res.cell; rfl; exact (by repeat (first | exact List.Mem.head _ | apply List.Mem.tail)); rfl; rfl))) rfl (fun W hW => ⟨rfl, hW.below⟩)
  | true =>
    rw [chkE_0.2 hk, if_pos rfl]
    obtain ⟨d1, d2, n1, n2⟩ := okB_of hk
    clear hk
    by_cases hb : 0 ≤ N ∧ N ≤ D
    · rw [if_pos hb]
      obtain ⟨b1, b2⟩ := hb
      obtain ⟨m1, m2⟩ := mul_bd n1 n2 (show 0 ≤ T by omega) t2
      have q1 := quo_low b1 d1 (show 0 ≤ T by omega) m2
      have q2 := quo_hig b1 d1 d2 (show 0 ≤ T by omega) m2
      repeat (first | refine l_val rfl rfl (by first | exact v_add rfl rfl (by omega) (by omega) | exact v_sub rfl rfl (by omega) (by omega) | exact v_mul rfl rfl (by omega) (by omega) | exact pureEval_ok rfl | exact v_load rfl (by repeat (first | exact List.Mem.head _ | apply List.Mem.tail)) rfl (by rfl) | exact v_quoA rfl rfl (by omega) (by assumption) ) ?_ | refine l_nil ?_ | refine c_region ?_ | refine c_seq ?_ | refine x_then ?_ | refine c_false rfl ?_ | refine c_dec_f rfl (by first | omega | exact fun h => h rfl ) ?_ | refine c_skip ?_ | refine c_ret ?_ | refine l_dec_f rfl rfl rfl rfl rfl (by first | omega ) ?_ )
      exact x_ret rfl rfl (by repeat (first | exact Res.nil | (apply Res.tmp; rfl) | (apply Res.cell; rfl; exact (by repeat (first | exact List.Mem.head _ | apply List.Mem.tail)); rfl; rfl))) rfl (fun W hW => ⟨rfl, hW.below⟩)
    · rw [if_neg hb]
      by_cases hN0 : N < 0
      · repeat (first | refine l_val rfl rfl (by first | exact pureEval_ok rfl | exact v_load rfl (by repeat (first | exact List.Mem.head _ | apply List.Mem.tail)) rfl (by rfl) ) ?_ | refine l_nil ?_ | refine c_region ?_ | refine c_seq ?_ | refine x_then ?_ | refine l_skip rfl rfl ?_ | refine c_true rfl ?_ | refine c_false rfl ?_ | refine c_skip ?_ | refine c_ret ?_ | refine x_then_ret ?_ | refine l_dec_t rfl rfl rfl rfl rfl (by first | omega ) ?_ )
        exact x_ret rfl rfl (by repeat (first | exact Res.nil | (apply Res.tmp; rfl) | (apply Res.cell; rfl; exact (by repeat (first | exact List.Mem.head _ | apply List.Mem.tail)); rfl; rfl))) rfl (fun W hW => ⟨rfl, hW.below⟩)
      · have hND : D < N := by omega
        repeat (first | refine l_val rfl rfl (by first | exact pureEval_ok rfl | exact v_load rfl (by repeat (first | exact List.Mem.head _ | apply List.Mem.tail)) rfl (by rfl) ) ?_ | refine l_nil ?_ | refine c_region ?_ | refine c_seq ?_ | refine x_then ?_ | refine c_false rfl ?_ | refine c_dec_t rfl (by first | omega ) ?_ | refine c_skip ?_ | refine c_ret ?_ | refine x_then_ret ?_ | refine l_dec_f rfl rfl rfl rfl rfl (by first | omega ) ?_ )
        exact x_ret rfl rfl (by repeat (first | exact Res.nil | (apply Res.tmp; rfl) | (apply Res.cell; rfl; exact (by repeat (first | exact List.Mem.head _ | apply List.Mem.tail)); rfl; rfl))) rfl (fun W hW => ⟨rfl, hW.below⟩)
end R13
end Go.Proofs
