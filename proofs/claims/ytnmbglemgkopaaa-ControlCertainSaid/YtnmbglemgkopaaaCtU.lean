/- Uncertain networks: the network of a clock in the program, walked. -/
import Derived.Test.YtnmbglemgkopaaaCtR
set_option linter.unusedSectionVars false
set_option linter.unusedVariables false
set_option linter.unusedSimpArgs false
namespace Go.Proofs
open Go.RowKit Go.Kin Go.Kin.St Go.Kin.Ct Go.Kin.Tm
open R22
namespace R23
open R13 (Clk psE spE v2 tkA)
/-- what is left of the pauses -/
structure LS where
  j : Nat
  a : Option Addr
  c : Nat
structure PS2 where
  s : OS
  l : LS
theorem at_drop {w : World} {b o : Nat} {rows : List (List Value)} {j : Nat} (h : Kin.At w (some ⟨b, o, none⟩) 4 (rows.drop j)) : Kin.At w (some ⟨b, o + 1 * 4, none⟩) 4 (rows.drop (j + 1)) := fun i r hr => by
  rw [List.getElem?_drop] at hr
  obtain ⟨b', o', e, hc⟩ := h (i + 1) r (by rw [List.getElem?_drop, show j + (i + 1) = j + 1 + i by omega]; exact hr)
  cases e
  refine ⟨b, o + 1 * 4, rfl, fun k v hv => ?_⟩
  have := hc k v hv
  rw [show o + (i + 1) * 4 + k = o + 1 * 4 + i * 4 + k by omega] at this
  exact this
theorem at_over {w : World} {A : Option Addr} {ps : List Ps} {j : Nat} (h : ps.length ≤ j) : Kin.At w A 4 ((ps.map psE).drop j) := fun i r h2 => by
  rw [List.getElem?_eq_none (by simp; omega)] at h2
  cases h2
theorem gSl_nil {α : Type} {b c : Nat} : gSl ([] : List α) b c = .slice none 0 0 := rfl
theorem gSl_cons {α : Type} {x : α} {xs : List α} {b c : Nat} : gSl (x :: xs) b c = .slice (some ⟨b, 0, none⟩) (x :: xs).length c := rfl
theorem gM_nil {α : Type} {f : α → List Value} {T : TypeId} {b : Nat} {r : List Value} : gM f T ([] : List α) b r = [] := rfl
theorem gM_cons {α : Type} {f : α → List Value} {T : TypeId} {x : α} {xs : List α} {b : Nat} {r : List Value} : gM f T (x :: xs) b r = [(b, .cells ⟨((x :: xs).map f).flatten ++ r⟩ T (0, 0))] := rfl
set_option maxRecDepth 100000 in
set_option maxHeartbeats 80000000 in
theorem Of_calls (c : Clk) (w : World) (hl : c.Sm) (hA : c.In w) (hcb : c.ps.length ≤ c.cb) : Calls Try.prog 14 ⟨[.agg ⟨c.v⟩]⟩ w (OfQ c w) := by
  have hck : ∀ (mem : List (Nat × Obj)) (W : World), SatW w (base w) noJ mem W → Calls Try.prog 35 ⟨[.agg ⟨c.v⟩]⟩ W fun e w' => e = .returned (.int .i64 c.k) ∧ Below W.heap.size W w' := fun mem W hW => R13.check_k c W hl (hA.sat hW)
  have htk : ∀ (i : Int) (mem : List (Nat × Obj)) (W : World), SatW w (base w) noJ mem W → Calls Try.prog 33 ⟨[.agg ⟨c.v⟩, .int .i64 i]⟩ W fun e w' => e = .returned (v2 (tkA c i)) ∧ Below W.heap.size W w' := fun i mem W hW => R13.Ticks_calls c i W hl (hA.sat hW)
  have hC : Kin.At w c.C 4 ((spL c.sp).map lkE) := by rw [spL_rows]; exact hA.c
  have hB := hA.b
  have hno := of_no (c := c)
  have hyes := of_yes (c := c)
  refine fun_enter Try.func14 rfl Try.ntmps14 rfl rfl (satW_nil w) ?_
  repeat (first | refine l_val rfl rfl (by first | exact pureEval_ok rfl | exact v_load rfl (by repeat (first | exact List.Mem.head _ | apply List.Mem.tail)) rfl (by rfl)  | fail) ?_ | refine l_nil ?_ | refine c_region ?_ | refine c_seq ?_ | refine x_then ?_ | refine r_box rfl rfl rfl rfl (fun _ => ?_) | refine r_alloc rfl rfl rfl (by first | exact aggL  | fail) (fun _ => ?_)  | fail)
  refine r_call rfl rfl rfl (fun W hW => hck _ W hW) ?_
  by_cases h0 : c.k = 0
  rotate_left
  · have hE : ofE c ≠ 0 := by rw [ofE_chk h0]; exact h0
    repeat (first | refine l_val rfl rfl (by first | exact pureEval_ok rfl | exact v_load rfl (by repeat (first | exact List.Mem.head _ | apply List.Mem.tail)) rfl (by rfl)  | fail) ?_ | refine l_nil ?_ | refine c_region ?_ | refine c_seq ?_ | refine x_then ?_ | refine r_store rfl rfl rfl rfl rfl rfl rfl (by repeat (first | exact Upd.head | apply Upd.tail)) (by rfl) ?_ | refine c_dec_t rfl (by first | omega  | fail) ?_ | refine c_ret ?_ | refine x_then_ret ?_  | fail)
    exact x_ret rfl rfl (by repeat (first | exact Res.nil | (apply Res.tmp; rfl) | (apply Res.cell; rfl; exact (by repeat (first | exact List.Mem.head _ | apply List.Mem.tail)); rfl; rfl))) rfl (fun W hW => of_zero hE (ofE_chk h0) hW.below)
  have hok := Tm.chk_ok.1 h0
  have hn1 := hok.n1
  have hn2 := hok.n2
  have hdef := fun (_ : Unit) => h0
  rw [h0]
  clear h0
  by_cases h2 : 63 < c.n
  · have hE := ofE_big (hdef ()) h2
    repeat (first | refine l_val rfl rfl (by first | exact pureEval_ok rfl | exact v_load rfl (by repeat (first | exact List.Mem.head _ | apply List.Mem.tail)) rfl (by rfl)  | fail) ?_ | refine l_nil ?_ | refine c_region ?_ | refine c_seq ?_ | refine x_then ?_ | refine r_store rfl rfl rfl rfl rfl rfl rfl (by repeat (first | exact Upd.head | apply Upd.tail)) (by rfl) ?_ | refine c_false rfl ?_ | refine c_dec_t rfl (by first | omega  | fail) ?_ | refine c_skip ?_ | refine c_ret ?_ | refine x_then_ret ?_  | fail)
    exact x_ret rfl rfl (by repeat (first | exact Res.nil | (apply Res.tmp; rfl) | (apply Res.cell; rfl; exact (by repeat (first | exact List.Mem.head _ | apply List.Mem.tail)); rfl; rfl))) rfl (fun W hW => of_zero (by rw [hE]; decide) hE hW.below)
  have htt : ∀ i : Nat, (i : Int) < c.n → tkA c i = (tk c.ts i, 0) := fun i hi => R13.tkA_in (hdef ()) ⟨by omega, by omega⟩
  have htb := hok.bars
  have hpb := psD_bd hok.ascP
  have hplen := hok.lim.2.1
  obtain ⟨N, hN⟩ : ∃ N : Nat, c.n = N := ⟨c.n.toNat, by omega⟩
  repeat (first | refine l_val rfl rfl (by first | exact v_add rfl rfl (by omega) (by omega) | exact pureEval_ok rfl | exact v_load rfl (by repeat (first | exact List.Mem.head _ | apply List.Mem.tail)) rfl (by rfl)  | fail) ?_ | refine l_nil ?_ | refine c_region ?_ | refine c_seq ?_ | refine x_then ?_ | refine r_store rfl rfl rfl rfl rfl rfl rfl (by repeat (first | exact Upd.head | apply Upd.tail)) (by rfl) ?_ | refine c_false rfl ?_ | refine c_dec_f rfl (by first | omega  | fail) ?_ | refine c_block ?_ | refine c_skip ?_  | fail)
  rename_i b1 b2
  refine c_loop (ι := PS2) (fun p => p.s.i ≤ N ∧ gOK lkE 4 (frL c.ts c.ps p.s.i) p.s.cf p.s.rf ∧ gOK lkE 4 (clL c.ts c.ps p.s.i) p.s.cc p.s.rc ∧ Tm.At c.ps p.l.j p.s.i ∧ Kin.At w p.l.a 4 ((c.ps.map psE).drop p.l.j) ∧ c.ps.length - p.l.j ≤ p.l.c)
    (fun p => [(1, .pointer (some ⟨b1, 0, none⟩)), (2, .pointer (some ⟨b2, 0, none⟩)), (3, .int .i64 0), (5, .slice p.l.a (c.ps.length - p.l.j) p.l.c), (28, .int .i64 N), (29, .int .i64 p.s.i)])
    (fun p => (b2, .cells ⟨[.int .i64 (c.n + 1), gSl (frL c.ts c.ps p.s.i) p.s.bf p.s.cf, gSl (clL c.ts c.ps p.s.i) p.s.bc p.s.cc]⟩ 24 (0, 0)) :: (b1, .cells ⟨c.v⟩ 28 (0, 0)) :: (gM lkE 55 (frL c.ts c.ps p.s.i) p.s.bf p.s.rf ++ gM lkE 55 (clL c.ts c.ps p.s.i) p.s.bc p.s.rc))
    (fun p => N - p.s.i) ⟨⟨0, 0, 0, [], 0, 0, []⟩, ⟨0, c.B, c.cb⟩⟩ ⟨Nat.zero_le _, fun h => absurd rfl h, fun h => absurd rfl h, at_zero hok.ascP, by rw [List.drop_zero]; exact hB, by simp only; omega⟩ (by rw [hN]; exact (by repeat (first | exact EnvSub.nil | refine EnvSub.cons rfl (by first | rfl | (congr 1; done) | (exact congrArg (Value.int _) (by omega)) | (simp; done)) ?_))) (by repeat (first | exact MSub.nil | refine MSub.keep (by first | rfl | assumption) ?_ | refine MSub.drop ?_ | exact MSub.refl _)) ?_
  rintro ⟨⟨i, bf, cf, rf, bc, cc, rc⟩, ⟨j, la, lc⟩⟩ ⟨hi, hgf, hgc, hat, hla, hlc⟩
  simp only at hi hgf hgc hat hla hlc ⊢
  by_cases hlt : i < N
  · have ht := htt i (by omega)
    have htb1 := htb i (by omega) (by omega)
    have hlk := ofLk_eq c.ts c.ps i
    have hfr := isFr_eq c.ps i
    have hfs := frL_succ c.ts c.ps i
    have hcs := clL_succ c.ts c.ps i
    have hfl := frL_le c.ts c.ps i
    have hcl := clL_le c.ts c.ps i
    repeat (first | refine l_val rfl rfl (by first | exact pureEval_ok rfl | exact v_load rfl (by repeat (first | exact List.Mem.head _ | apply List.Mem.tail)) rfl (by rfl)  | fail) ?_ | refine l_nil ?_ | refine c_region ?_ | refine c_seq ?_ | refine x_then ?_ | refine c_dec_t rfl (by first | omega  | fail) ?_ | refine c_block ?_ | refine c_skip ?_  | fail)
    refine r_call rfl rfl rfl (fun W hW => htk i _ W hW) ?_
    rw [ht]
    dsimp only [v2]
    obtain ⟨tv, htv⟩ : ∃ x, tk c.ts i = x := ⟨_, rfl⟩
    rw [htv] at htb1 hlk
    rw [htv]
    by_cases hje : c.ps.length ≤ j
    · have hpn := psAt_end hat hje
      rw [hpn] at hlk hfr
      have hat2 := at_not hok.ascP hat (by unfold hasP; rw [List.getElem?_eq_none hje])
      have hfr2 : isFr c.ps i = false := hfr
      rw [hfr2, if_neg (by decide)] at hfs hcs
      clear hfr
      simp only [psD, Int.add_zero] at hlk
      repeat ((fail_if_success refine c_probe (id := 21) ?_); (fail_if_success refine c_probe1 (id := 21) ?_); first | refine l_val rfl rfl (by first | exact v_add rfl rfl (by omega) (by omega) | exact pureEval_ok rfl | exact v_build rfl rfl (by rfl)  | fail) ?_ | refine l_nil ?_ | refine c_region ?_ | refine c_seq ?_ | refine x_then ?_ | refine l_skip rfl rfl ?_ | refine r_alloc rfl rfl rfl (by first | exact aggL  | fail) (fun _ => ?_) | refine r_store rfl rfl rfl rfl rfl rfl rfl (by repeat (first | exact Upd.head | apply Upd.tail)) (by rfl) ?_ | refine c_false rfl ?_ | refine c_skip ?_ | refine l_dec_f rfl rfl rfl rfl rfl (by first | omega  | fail) ?_  | fail)
      obtain ⟨own, hown⟩ : ∃ l, clL c.ts c.ps i = l := ⟨_, rfl⟩
      rw [hlk] at hcs
      rw [hown] at hgc hcs hcl ⊢
      refine c_perm ((List.perm_append_comm.append_left [_, _, _]).trans (List.perm_append_comm_assoc [_, _, _] _ _)) ?_
      cases own with
      | nil =>
        rw [gSl_nil, gM_nil]
        simp only [List.nil_append, List.cons_append]
        refine c_new 2 2 [(5, .new 2), (6, .app 3 none 4), (8, .sto 1 2 1)] [(5,[2]),(6,[3]),(8,[1])] [(3,1),(6,2)] rfl (by decide +kernel) rfl ?_; repeat (first | refine e_val rfl rfl rfl rfl (by first | exact pureEval_ok rfl | exact v_load rfl (by repeat (first | exact List.Mem.head _ | apply List.Mem.tail)) rfl (by rfl)  | fail) ?_ | refine e_new rfl rfl rfl rfl (by first | exact n_buildSlice rfl rfl rfl rfl (by rfl)  | fail) (fun _ => ?_)  | fail)
        refine e_app0 (xs := lkE (⟨i, i + 1, tv, tv⟩ : Lk)) (n := 1) (e := 55) rfl rfl rfl rfl (by decide) rfl (by decide) rfl (a_append_nil rfl rfl rfl rfl (news_own (by repeat (first | exact List.Mem.head _ | apply List.Mem.tail))) rfl rfl (by decide) (by decide) (by decide)) (fun b7 c7 r7 hg7 => ?_)
        repeat (first | refine l_val rfl rfl (by first | exact v_add rfl rfl (by omega) (by omega) | exact pureEval_ok rfl  | fail) ?_ | refine l_nil ?_ | refine c_region ?_ | refine x_then ?_ | refine x_block ?_ | refine e_val rfl rfl rfl rfl (by first | exact pureEval_ok rfl  | fail) ?_ | refine e_store rfl rfl rfl rfl rfl rfl rfl rfl (by first | rfl  | fail) rfl rfl (by first | (simp; done)  | fail) (by first | exact splice_lit (by rfl)  | fail) ?_ | refine e_nil rfl ?_  | fail)
        refine x_perm ((List.perm_middle (l₁ := [_, _, _])).trans (List.perm_append_singleton _ _).symm) ?_
        exact x_back ⟨⟨i + 1, bf, cf, rf, b7, c7, r7⟩, ⟨j, la, lc⟩⟩ ⟨hlt, by rw [hfs]; exact hgf, by rw [hcs]; exact fun _ => hg7, hat2, hla, hlc⟩ (by simp only; omega) (by repeat (first | exact EnvSub.nil | refine EnvSub.cons rfl (by first | rfl | (congr 1; done) | (exact congrArg (Value.int _) (by omega)) | (simp; done)) ?_)) (by simp only [hcs, hfs]; exact (by repeat (first | exact MSub.nil | refine MSub.keep (by first | rfl | assumption) ?_ | refine MSub.drop ?_ | exact MSub.refl _)))
      | cons x0 xs =>
        have hgr := hgc (by simp)
        rw [gSl_cons, gM_cons]
        simp only [List.nil_append, List.cons_append]
        simp only [List.length_cons] at hcl
        refine c_new 3 2 [(5, .new 3), (6, .app 4 (some 0) 4), (8, .sto 2 2 1)] [(5,[3]),(6,[4,0]),(8,[2])] [(3,2),(6,3),(6,0)] rfl (by decide +kernel) rfl ?_; repeat (first | refine e_val rfl rfl rfl rfl (by first | exact pureEval_ok rfl | exact v_load rfl (by repeat (first | exact List.Mem.head _ | apply List.Mem.tail)) rfl (by rfl)  | fail) ?_ | refine e_new rfl rfl rfl rfl (by first | exact n_buildSlice rfl rfl rfl rfl (by rfl)  | fail) (fun _ => ?_)  | fail)
        refine e_app (xs := ((x0 :: xs).map lkE).flatten ++ lkE (⟨i, i + 1, tv, tv⟩ : Lk)) (n := ((x0 :: xs) ++ [(⟨i, i + 1, tv, tv⟩ : Lk)]).length) (e := 55) rfl rfl rfl rfl rfl (by decide) (by rw [List.length_append, rowsE_len, List.length_append]; show (x0 :: xs).length * 4 + 4 = ((x0 :: xs).length + 1) * 4; omega) (by simp only [List.length_append, List.length_cons, List.length_nil]; unfold maxLen; omega) rfl (a_append (m := 1) (ys := lkE (⟨i, i + 1, tv, tv⟩ : Lk)) rfl rfl rfl rfl (news_own (by repeat (first | exact List.Mem.head _ | apply List.Mem.tail))) (by repeat (first | exact List.Mem.head _ | apply List.Mem.tail)) hgr rfl (allOne_mem rfl) rfl (by rw [List.length_append]; rfl) (by simp only [List.length_append, List.length_cons, List.length_nil]; omega) (by simp only [List.length_append, List.length_cons, List.length_nil]; unfold maxLen; omega)) (fun b7 c7 r7 hg7 => ?_)
        have e1 : ((x0 :: xs).map lkE).flatten ++ lkE (⟨i, i + 1, tv, tv⟩ : Lk) = (((x0 :: xs) ++ [(⟨i, i + 1, tv, tv⟩ : Lk)]).map lkE).flatten := by rw [List.map_append, List.flatten_append]; simp
        rw [e1] at hg7 ⊢
        repeat (first | refine l_val rfl rfl (by first | exact v_add rfl rfl (by omega) (by omega) | exact pureEval_ok rfl  | fail) ?_ | refine l_nil ?_ | refine c_region ?_ | refine x_then ?_ | refine x_block ?_ | refine e_val rfl rfl rfl rfl (by first | exact pureEval_ok rfl  | fail) ?_ | refine e_store rfl rfl rfl rfl rfl rfl rfl rfl (by first | rfl  | fail) rfl rfl (by first | (simp; done)  | fail) (by first | exact splice_lit (by rfl)  | fail) ?_ | refine e_nil rfl ?_  | fail)
        refine x_perm ((List.perm_middle (l₁ := [_, _, _])).trans (List.perm_append_singleton _ _).symm) ?_
        exact x_back ⟨⟨i + 1, bf, cf, rf, b7, c7, r7⟩, ⟨j, la, lc⟩⟩ ⟨hlt, by rw [hfs]; exact hgf, by rw [hcs]; exact fun _ => hg7, hat2, hla, hlc⟩ (by simp only; omega) (by repeat (first | exact EnvSub.nil | refine EnvSub.cons rfl (by first | rfl | (congr 1; done) | (exact congrArg (Value.int _) (by omega)) | (simp; done)) ?_)) (by simp only [hcs, hfs]; exact (by repeat (first | exact MSub.nil | refine MSub.keep (by first | rfl | assumption) ?_ | refine MSub.drop ?_ | exact MSub.refl _)))
    · obtain ⟨p, hp⟩ : ∃ p, c.ps[j]? = some p := ⟨_, List.getElem?_eq_getElem (by omega)⟩
      obtain ⟨z1, z2, -, ⟨z3, z4⟩, z5⟩ := ascP_get hok.ascP hp
      obtain ⟨q1, q2⟩ := psAt_has hok.ascP hat hp
      obtain ⟨bl, ol, rfl, hcl0⟩ := hla 0 (psE p) (by rw [List.getElem?_drop, Nat.add_zero, List.getElem?_map, hp]; rfl)
      have hep : Ext w (base w) bl ol [.int .i64 p.bar, .int .i64 p.kind, .int .i64 p.lo, .int .i64 p.hi] := by
        have h := ext_of hcl0
        rw [Nat.zero_mul, Nat.add_zero] at h
        exact h
      by_cases hbar : p.bar = i
      · have hpn := q1 hbar
        clear q1 q2
        rw [hpn] at hlk hfr
        simp only [psD] at hlk
        have hat2 := at_has hok.ascP hat (by unfold hasP; rw [hp]; exact decide_eq_true hbar)
        by_cases hk1 : p.kind = 1
        · have hfr2 : isFr c.ps i = true := by rw [hfr]; simp only [psD, Option.isSome_some, Bool.true_and]; exact decide_eq_true hk1
          rw [hfr2, if_pos rfl] at hfs hcs
          clear hfr
          repeat ((fail_if_success refine c_probe (id := 17) ?_); (fail_if_success refine c_probe1 (id := 17) ?_); first | refine l_val rfl rfl (by first | exact v_add rfl rfl (by omega) (by omega) | exact pureEval_ok rfl | exact v_load_ext0 rfl (by assumption) rfl (by rfl) | exact v_index rfl rfl rfl rfl (by omega) (by omega) (by with_reducible first | exact idx8 _ _ _   | fail) | exact v_build rfl rfl (by rfl)  | fail) ?_ | refine l_nil ?_ | refine c_region ?_ | refine c_seq ?_ | refine x_then ?_ | refine r_alloc rfl rfl rfl (by first | exact aggL  | fail) (fun _ => ?_) | refine r_store rfl rfl rfl rfl rfl rfl rfl (by repeat (first | exact Upd.head | apply Upd.tail)) (by rfl) ?_ | refine c_false rfl ?_ | refine c_dec_t rfl (by first | omega  | fail) ?_ | refine c_skip ?_ | refine l_dec_t rfl rfl rfl rfl rfl (by first | omega  | fail) ?_  | fail)
          refine c_seq ?_
          refine c_gen [(13,0),(15,0)] [(13,0,2,1),(15,0,3,1)] [] rfl (by decide +kernel) (by repeat' (first | exact trivial | apply And.intro | exact Or.inl (Nat.ne_of_beq_eq_false rfl) | (right; simp only; omega))) ?_; repeat (first | refine l_val rfl rfl (by first | exact pureEval_ok rfl | exact v_load_ext rfl (by assumption) rfl (by rfl) | exact v_index rfl rfl rfl rfl (by omega) (by omega) (by with_reducible first | exact idx8 _ _ _   | fail)  | fail) ?_ | refine l_nil ?_ | refine c_region ?_ | refine c_seq ?_ | refine x_then ?_ | refine c_dec_t rfl (by first | omega  | fail) ?_ | refine g_val rfl rfl rfl (by first | exact v_add rfl rfl (by omega) (by omega) | exact pureEval_ok rfl | exact v_load_ext rfl (by assumption) rfl (by rfl) | exact v_index rfl rfl rfl rfl (by omega) (by omega) (by with_reducible first | exact idx8 _ _ _   | fail)  | fail) ?_ | refine g_store rfl rfl rfl rfl rfl rfl rfl rfl (by first | rfl  | fail) rfl rfl (by first | (simp; done)  | fail) (by first | exact splice_lit (by rfl)  | fail) rfl ?_ | refine g_nil ?_  | fail)
          by_cases hlc1 : lc = 1
          · refine l_val rfl rfl (v_sliceE (k0 := 1) rfl rfl rfl rfl rfl (by omega) hlc1) ?_
            rw [show c.ps.length - j - 1 = c.ps.length - (j + 1) by omega]
            simp only [List.set_cons_zero]
            repeat ((fail_if_success refine c_probe (id := 21) ?_); (fail_if_success refine c_probe1 (id := 21) ?_); first | refine l_val rfl rfl (by first | exact pureEval_ok rfl  | fail) ?_ | refine l_nil ?_ | refine x_then ?_  | fail)
            obtain ⟨own, hown⟩ : ∃ l, frL c.ts c.ps i = l := ⟨_, rfl⟩
            rw [hlk] at hfs
            rw [hown] at hgf hfs hfl ⊢
            refine c_perm (List.perm_append_comm_assoc [_, _, _] _ _) ?_
            cases own with
            | nil =>
              rw [gSl_nil, gM_nil]
              simp only [List.nil_append, List.cons_append]
              refine c_new 2 2 [(5, .new 2), (6, .app 3 none 4), (8, .sto 1 1 1)] [(5,[2]),(6,[3]),(8,[1])] [(3,1),(6,2)] rfl (by decide +kernel) rfl ?_; repeat (first | refine e_val rfl rfl rfl rfl (by first | exact pureEval_ok rfl | exact v_load rfl (by repeat (first | exact List.Mem.head _ | apply List.Mem.tail)) rfl (by rfl)  | fail) ?_ | refine e_new rfl rfl rfl rfl (by first | exact n_buildSlice rfl rfl rfl rfl (by rfl)  | fail) (fun _ => ?_)  | fail)
              refine e_app0 (xs := lkE (⟨i, i + 1, tv + p.lo, tv + p.hi⟩ : Lk)) (n := 1) (e := 55) rfl rfl rfl rfl (by decide) rfl (by decide) rfl (a_append_nil rfl rfl rfl rfl (news_own (by repeat (first | exact List.Mem.head _ | apply List.Mem.tail))) rfl rfl (by decide) (by decide) (by decide)) (fun b7 c7 r7 hg7 => ?_)
              repeat (first | refine l_val rfl rfl (by first | exact v_add rfl rfl (by omega) (by omega) | exact pureEval_ok rfl  | fail) ?_ | refine l_nil ?_ | refine c_region ?_ | refine x_then ?_ | refine x_block ?_ | refine e_val rfl rfl rfl rfl (by first | exact pureEval_ok rfl  | fail) ?_ | refine e_store rfl rfl rfl rfl rfl rfl rfl rfl (by first | rfl  | fail) rfl rfl (by first | (simp; done)  | fail) (by first | exact splice_lit (by rfl)  | fail) ?_ | refine e_nil rfl ?_  | fail)
              refine x_perm ((((List.Perm.swap _ _ _).cons _).cons _).cons _) ?_
              exact x_back ⟨⟨i + 1, b7, c7, r7, bc, cc, rc⟩, ⟨j + 1, some ⟨bl, ol, none⟩, 0⟩⟩ ⟨hlt, by rw [hfs]; exact fun _ => hg7, by rw [hcs]; exact hgc, hat2, at_over (show c.ps.length ≤ j + 1 by omega), (show c.ps.length - (j + 1) ≤ 0 by omega)⟩ (by simp only; omega) (by repeat (first | exact EnvSub.nil | refine EnvSub.cons rfl (by first | rfl | (congr 1; done) | (exact congrArg (Value.int _) (by omega)) | (simp; done)) ?_)) (by simp only [hfs, hcs]; exact (by repeat (first | exact MSub.nil | refine MSub.keep (by first | rfl | assumption) ?_ | refine MSub.drop ?_ | exact MSub.refl _)))
            | cons x0 xs =>
              have hgr := hgf (by simp)
              rw [gSl_cons, gM_cons]
              simp only [List.nil_append, List.cons_append]
              simp only [List.length_cons] at hfl
              refine c_new 3 2 [(5, .new 3), (6, .app 4 (some 0) 4), (8, .sto 2 1 1)] [(5,[3]),(6,[4,0]),(8,[2])] [(3,2),(6,3),(6,0)] rfl (by decide +kernel) rfl ?_; repeat (first | refine e_val rfl rfl rfl rfl (by first | exact pureEval_ok rfl | exact v_load rfl (by repeat (first | exact List.Mem.head _ | apply List.Mem.tail)) rfl (by rfl)  | fail) ?_ | refine e_new rfl rfl rfl rfl (by first | exact n_buildSlice rfl rfl rfl rfl (by rfl)  | fail) (fun _ => ?_)  | fail)
              refine e_app (xs := ((x0 :: xs).map lkE).flatten ++ lkE (⟨i, i + 1, tv + p.lo, tv + p.hi⟩ : Lk)) (n := ((x0 :: xs) ++ [(⟨i, i + 1, tv + p.lo, tv + p.hi⟩ : Lk)]).length) (e := 55) rfl rfl rfl rfl rfl (by decide) (by rw [List.length_append, rowsE_len, List.length_append]; show (x0 :: xs).length * 4 + 4 = ((x0 :: xs).length + 1) * 4; omega) (by simp only [List.length_append, List.length_cons, List.length_nil]; unfold maxLen; omega) rfl (a_append (m := 1) (ys := lkE (⟨i, i + 1, tv + p.lo, tv + p.hi⟩ : Lk)) rfl rfl rfl rfl (news_own (by repeat (first | exact List.Mem.head _ | apply List.Mem.tail))) (by repeat (first | exact List.Mem.head _ | apply List.Mem.tail)) hgr rfl (allOne_mem rfl) rfl (by rw [List.length_append]; rfl) (by simp only [List.length_append, List.length_cons, List.length_nil]; omega) (by simp only [List.length_append, List.length_cons, List.length_nil]; unfold maxLen; omega)) (fun b7 c7 r7 hg7 => ?_)
              have e1 : ((x0 :: xs).map lkE).flatten ++ lkE (⟨i, i + 1, tv + p.lo, tv + p.hi⟩ : Lk) = (((x0 :: xs) ++ [(⟨i, i + 1, tv + p.lo, tv + p.hi⟩ : Lk)]).map lkE).flatten := by rw [List.map_append, List.flatten_append]; simp
              rw [e1] at hg7 ⊢
              repeat (first | refine l_val rfl rfl (by first | exact v_add rfl rfl (by omega) (by omega) | exact pureEval_ok rfl  | fail) ?_ | refine l_nil ?_ | refine c_region ?_ | refine x_then ?_ | refine x_block ?_ | refine e_val rfl rfl rfl rfl (by first | exact pureEval_ok rfl  | fail) ?_ | refine e_store rfl rfl rfl rfl rfl rfl rfl rfl (by first | rfl  | fail) rfl rfl (by first | (simp; done)  | fail) (by first | exact splice_lit (by rfl)  | fail) ?_ | refine e_nil rfl ?_  | fail)
              refine x_perm ((((List.Perm.swap _ _ _).cons _).cons _).cons _) ?_
              exact x_back ⟨⟨i + 1, b7, c7, r7, bc, cc, rc⟩, ⟨j + 1, some ⟨bl, ol, none⟩, 0⟩⟩ ⟨hlt, by rw [hfs]; exact fun _ => hg7, by rw [hcs]; exact hgc, hat2, at_over (show c.ps.length ≤ j + 1 by omega), (show c.ps.length - (j + 1) ≤ 0 by omega)⟩ (by simp only; omega) (by repeat (first | exact EnvSub.nil | refine EnvSub.cons rfl (by first | rfl | (congr 1; done) | (exact congrArg (Value.int _) (by omega)) | (simp; done)) ?_)) (by simp only [hfs, hcs]; exact (by repeat (first | exact MSub.nil | refine MSub.keep (by first | rfl | assumption) ?_ | refine MSub.drop ?_ | exact MSub.refl _)))
          · refine l_val rfl rfl (v_sliceL (l := 1) rfl rfl rfl rfl rfl (by omega) hlc1) ?_
            rw [show c.ps.length - j - 1 = c.ps.length - (j + 1) by omega]
            simp only [List.set_cons_zero]
            repeat ((fail_if_success refine c_probe (id := 21) ?_); (fail_if_success refine c_probe1 (id := 21) ?_); first | refine l_val rfl rfl (by first | exact pureEval_ok rfl  | fail) ?_ | refine l_nil ?_ | refine x_then ?_  | fail)
            obtain ⟨own, hown⟩ : ∃ l, frL c.ts c.ps i = l := ⟨_, rfl⟩
            rw [hlk] at hfs
            rw [hown] at hgf hfs hfl ⊢
            refine c_perm (List.perm_append_comm_assoc [_, _, _] _ _) ?_
            cases own with
            | nil =>
              rw [gSl_nil, gM_nil]
              simp only [List.nil_append, List.cons_append]
              refine c_new 2 2 [(5, .new 2), (6, .app 3 none 4), (8, .sto 1 1 1)] [(5,[2]),(6,[3]),(8,[1])] [(3,1),(6,2)] rfl (by decide +kernel) rfl ?_; repeat (first | refine e_val rfl rfl rfl rfl (by first | exact pureEval_ok rfl | exact v_load rfl (by repeat (first | exact List.Mem.head _ | apply List.Mem.tail)) rfl (by rfl)  | fail) ?_ | refine e_new rfl rfl rfl rfl (by first | exact n_buildSlice rfl rfl rfl rfl (by rfl)  | fail) (fun _ => ?_)  | fail)
              refine e_app0 (xs := lkE (⟨i, i + 1, tv + p.lo, tv + p.hi⟩ : Lk)) (n := 1) (e := 55) rfl rfl rfl rfl (by decide) rfl (by decide) rfl (a_append_nil rfl rfl rfl rfl (news_own (by repeat (first | exact List.Mem.head _ | apply List.Mem.tail))) rfl rfl (by decide) (by decide) (by decide)) (fun b7 c7 r7 hg7 => ?_)
              repeat (first | refine l_val rfl rfl (by first | exact v_add rfl rfl (by omega) (by omega) | exact pureEval_ok rfl  | fail) ?_ | refine l_nil ?_ | refine c_region ?_ | refine x_then ?_ | refine x_block ?_ | refine e_val rfl rfl rfl rfl (by first | exact pureEval_ok rfl  | fail) ?_ | refine e_store rfl rfl rfl rfl rfl rfl rfl rfl (by first | rfl  | fail) rfl rfl (by first | (simp; done)  | fail) (by first | exact splice_lit (by rfl)  | fail) ?_ | refine e_nil rfl ?_  | fail)
              refine x_perm ((((List.Perm.swap _ _ _).cons _).cons _).cons _) ?_
              exact x_back ⟨⟨i + 1, b7, c7, r7, bc, cc, rc⟩, ⟨j + 1, some ⟨bl, ol + 1 * 4, none⟩, lc - 1⟩⟩ ⟨hlt, by rw [hfs]; exact fun _ => hg7, by rw [hcs]; exact hgc, hat2, at_drop hla, (show c.ps.length - (j + 1) ≤ lc - 1 by omega)⟩ (by simp only; omega) (by repeat (first | exact EnvSub.nil | refine EnvSub.cons rfl (by first | rfl | (congr 1; done) | (exact congrArg (Value.int _) (by omega)) | (simp; done)) ?_)) (by simp only [hfs, hcs]; exact (by repeat (first | exact MSub.nil | refine MSub.keep (by first | rfl | assumption) ?_ | refine MSub.drop ?_ | exact MSub.refl _)))
            | cons x0 xs =>
              have hgr := hgf (by simp)
              rw [gSl_cons, gM_cons]
              simp only [List.nil_append, List.cons_append]
              simp only [List.length_cons] at hfl
              refine c_new 3 2 [(5, .new 3), (6, .app 4 (some 0) 4), (8, .sto 2 1 1)] [(5,[3]),(6,[4,0]),(8,[2])] [(3,2),(6,3),(6,0)] rfl (by decide +kernel) rfl ?_; repeat (first | refine e_val rfl rfl rfl rfl (by first | exact pureEval_ok rfl | exact v_load rfl (by repeat (first | exact List.Mem.head _ | apply List.Mem.tail)) rfl (by rfl)  | fail) ?_ | refine e_new rfl rfl rfl rfl (by first | exact n_buildSlice rfl rfl rfl rfl (by rfl)  | fail) (fun _ => ?_)  | fail)
              refine e_app (xs := ((x0 :: xs).map lkE).flatten ++ lkE (⟨i, i + 1, tv + p.lo, tv + p.hi⟩ : Lk)) (n := ((x0 :: xs) ++ [(⟨i, i + 1, tv + p.lo, tv + p.hi⟩ : Lk)]).length) (e := 55) rfl rfl rfl rfl rfl (by decide) (by rw [List.length_append, rowsE_len, List.length_append]; show (x0 :: xs).length * 4 + 4 = ((x0 :: xs).length + 1) * 4; omega) (by simp only [List.length_append, List.length_cons, List.length_nil]; unfold maxLen; omega) rfl (a_append (m := 1) (ys := lkE (⟨i, i + 1, tv + p.lo, tv + p.hi⟩ : Lk)) rfl rfl rfl rfl (news_own (by repeat (first | exact List.Mem.head _ | apply List.Mem.tail))) (by repeat (first | exact List.Mem.head _ | apply List.Mem.tail)) hgr rfl (allOne_mem rfl) rfl (by rw [List.length_append]; rfl) (by simp only [List.length_append, List.length_cons, List.length_nil]; omega) (by simp only [List.length_append, List.length_cons, List.length_nil]; unfold maxLen; omega)) (fun b7 c7 r7 hg7 => ?_)
              have e1 : ((x0 :: xs).map lkE).flatten ++ lkE (⟨i, i + 1, tv + p.lo, tv + p.hi⟩ : Lk) = (((x0 :: xs) ++ [(⟨i, i + 1, tv + p.lo, tv + p.hi⟩ : Lk)]).map lkE).flatten := by rw [List.map_append, List.flatten_append]; simp
              rw [e1] at hg7 ⊢
              repeat (first | refine l_val rfl rfl (by first | exact v_add rfl rfl (by omega) (by omega) | exact pureEval_ok rfl  | fail) ?_ | refine l_nil ?_ | refine c_region ?_ | refine x_then ?_ | refine x_block ?_ | refine e_val rfl rfl rfl rfl (by first | exact pureEval_ok rfl  | fail) ?_ | refine e_store rfl rfl rfl rfl rfl rfl rfl rfl (by first | rfl  | fail) rfl rfl (by first | (simp; done)  | fail) (by first | exact splice_lit (by rfl)  | fail) ?_ | refine e_nil rfl ?_  | fail)
              refine x_perm ((((List.Perm.swap _ _ _).cons _).cons _).cons _) ?_
              exact x_back ⟨⟨i + 1, b7, c7, r7, bc, cc, rc⟩, ⟨j + 1, some ⟨bl, ol + 1 * 4, none⟩, lc - 1⟩⟩ ⟨hlt, by rw [hfs]; exact fun _ => hg7, by rw [hcs]; exact hgc, hat2, at_drop hla, (show c.ps.length - (j + 1) ≤ lc - 1 by omega)⟩ (by simp only; omega) (by repeat (first | exact EnvSub.nil | refine EnvSub.cons rfl (by first | rfl | (congr 1; done) | (exact congrArg (Value.int _) (by omega)) | (simp; done)) ?_)) (by simp only [hfs, hcs]; exact (by repeat (first | exact MSub.nil | refine MSub.keep (by first | rfl | assumption) ?_ | refine MSub.drop ?_ | exact MSub.refl _)))
        · have hfr2 : isFr c.ps i = false := by rw [hfr]; simp only [psD, Option.isSome_some, Bool.true_and]; exact decide_eq_false hk1
          rw [hfr2, if_neg (by decide)] at hfs hcs
          clear hfr
          repeat ((fail_if_success refine c_probe (id := 17) ?_); (fail_if_success refine c_probe1 (id := 17) ?_); first | refine l_val rfl rfl (by first | exact v_add rfl rfl (by omega) (by omega) | exact pureEval_ok rfl | exact v_load_ext0 rfl (by assumption) rfl (by rfl) | exact v_index rfl rfl rfl rfl (by omega) (by omega) (by with_reducible first | exact idx8 _ _ _   | fail) | exact v_build rfl rfl (by rfl)  | fail) ?_ | refine l_nil ?_ | refine c_region ?_ | refine c_seq ?_ | refine x_then ?_ | refine r_alloc rfl rfl rfl (by first | exact aggL  | fail) (fun _ => ?_) | refine r_store rfl rfl rfl rfl rfl rfl rfl (by repeat (first | exact Upd.head | apply Upd.tail)) (by rfl) ?_ | refine c_false rfl ?_ | refine c_dec_t rfl (by first | omega  | fail) ?_ | refine c_skip ?_ | refine l_dec_t rfl rfl rfl rfl rfl (by first | omega  | fail) ?_  | fail)
          refine c_seq ?_
          refine c_gen [(13,0),(15,0)] [(13,0,2,1),(15,0,3,1)] [] rfl (by decide +kernel) (by repeat' (first | exact trivial | apply And.intro | exact Or.inl (Nat.ne_of_beq_eq_false rfl) | (right; simp only; omega))) ?_; repeat (first | refine l_val rfl rfl (by first | exact pureEval_ok rfl | exact v_load_ext rfl (by assumption) rfl (by rfl) | exact v_index rfl rfl rfl rfl (by omega) (by omega) (by with_reducible first | exact idx8 _ _ _   | fail)  | fail) ?_ | refine l_nil ?_ | refine c_region ?_ | refine c_seq ?_ | refine x_then ?_ | refine c_dec_f rfl (by first | omega  | fail) ?_ | refine c_skip ?_ | refine g_val rfl rfl rfl (by first | exact v_add rfl rfl (by omega) (by omega) | exact pureEval_ok rfl | exact v_load_ext rfl (by assumption) rfl (by rfl) | exact v_index rfl rfl rfl rfl (by omega) (by omega) (by with_reducible first | exact idx8 _ _ _   | fail)  | fail) ?_ | refine g_store rfl rfl rfl rfl rfl rfl rfl rfl (by first | rfl  | fail) rfl rfl (by first | (simp; done)  | fail) (by first | exact splice_lit (by rfl)  | fail) rfl ?_ | refine g_nil ?_  | fail)
          by_cases hlc1 : lc = 1
          · refine l_val rfl rfl (v_sliceE (k0 := 1) rfl rfl rfl rfl rfl (by omega) hlc1) ?_
            rw [show c.ps.length - j - 1 = c.ps.length - (j + 1) by omega]
            simp only [List.set_cons_zero]
            repeat ((fail_if_success refine c_probe (id := 21) ?_); (fail_if_success refine c_probe1 (id := 21) ?_); first | refine l_val rfl rfl (by first | exact pureEval_ok rfl  | fail) ?_ | refine l_nil ?_ | refine x_then ?_  | fail)
            obtain ⟨own, hown⟩ : ∃ l, clL c.ts c.ps i = l := ⟨_, rfl⟩
            rw [hlk] at hcs
            rw [hown] at hgc hcs hcl ⊢
            refine c_perm ((List.perm_append_comm.append_left [_, _, _]).trans (List.perm_append_comm_assoc [_, _, _] _ _)) ?_
            cases own with
            | nil =>
              rw [gSl_nil, gM_nil]
              simp only [List.nil_append, List.cons_append]
              refine c_new 2 2 [(5, .new 2), (6, .app 3 none 4), (8, .sto 1 2 1)] [(5,[2]),(6,[3]),(8,[1])] [(3,1),(6,2)] rfl (by decide +kernel) rfl ?_; repeat (first | refine e_val rfl rfl rfl rfl (by first | exact pureEval_ok rfl | exact v_load rfl (by repeat (first | exact List.Mem.head _ | apply List.Mem.tail)) rfl (by rfl)  | fail) ?_ | refine e_new rfl rfl rfl rfl (by first | exact n_buildSlice rfl rfl rfl rfl (by rfl)  | fail) (fun _ => ?_)  | fail)
              refine e_app0 (xs := lkE (⟨i, i + 1, tv + p.lo, tv + p.hi⟩ : Lk)) (n := 1) (e := 55) rfl rfl rfl rfl (by decide) rfl (by decide) rfl (a_append_nil rfl rfl rfl rfl (news_own (by repeat (first | exact List.Mem.head _ | apply List.Mem.tail))) rfl rfl (by decide) (by decide) (by decide)) (fun b7 c7 r7 hg7 => ?_)
              repeat (first | refine l_val rfl rfl (by first | exact v_add rfl rfl (by omega) (by omega) | exact pureEval_ok rfl  | fail) ?_ | refine l_nil ?_ | refine c_region ?_ | refine x_then ?_ | refine x_block ?_ | refine e_val rfl rfl rfl rfl (by first | exact pureEval_ok rfl  | fail) ?_ | refine e_store rfl rfl rfl rfl rfl rfl rfl rfl (by first | rfl  | fail) rfl rfl (by first | (simp; done)  | fail) (by first | exact splice_lit (by rfl)  | fail) ?_ | refine e_nil rfl ?_  | fail)
              refine x_perm ((List.perm_middle (l₁ := [_, _, _])).trans (List.perm_append_singleton _ _).symm) ?_
              exact x_back ⟨⟨i + 1, bf, cf, rf, b7, c7, r7⟩, ⟨j + 1, some ⟨bl, ol, none⟩, 0⟩⟩ ⟨hlt, by rw [hfs]; exact hgf, by rw [hcs]; exact fun _ => hg7, hat2, at_over (show c.ps.length ≤ j + 1 by omega), (show c.ps.length - (j + 1) ≤ 0 by omega)⟩ (by simp only; omega) (by repeat (first | exact EnvSub.nil | refine EnvSub.cons rfl (by first | rfl | (congr 1; done) | (exact congrArg (Value.int _) (by omega)) | (simp; done)) ?_)) (by simp only [hcs, hfs]; exact (by repeat (first | exact MSub.nil | refine MSub.keep (by first | rfl | assumption) ?_ | refine MSub.drop ?_ | exact MSub.refl _)))
            | cons x0 xs =>
              have hgr := hgc (by simp)
              rw [gSl_cons, gM_cons]
              simp only [List.nil_append, List.cons_append]
              simp only [List.length_cons] at hcl
              refine c_new 3 2 [(5, .new 3), (6, .app 4 (some 0) 4), (8, .sto 2 2 1)] [(5,[3]),(6,[4,0]),(8,[2])] [(3,2),(6,3),(6,0)] rfl (by decide +kernel) rfl ?_; repeat (first | refine e_val rfl rfl rfl rfl (by first | exact pureEval_ok rfl | exact v_load rfl (by repeat (first | exact List.Mem.head _ | apply List.Mem.tail)) rfl (by rfl)  | fail) ?_ | refine e_new rfl rfl rfl rfl (by first | exact n_buildSlice rfl rfl rfl rfl (by rfl)  | fail) (fun _ => ?_)  | fail)
              refine e_app (xs := ((x0 :: xs).map lkE).flatten ++ lkE (⟨i, i + 1, tv + p.lo, tv + p.hi⟩ : Lk)) (n := ((x0 :: xs) ++ [(⟨i, i + 1, tv + p.lo, tv + p.hi⟩ : Lk)]).length) (e := 55) rfl rfl rfl rfl rfl (by decide) (by rw [List.length_append, rowsE_len, List.length_append]; show (x0 :: xs).length * 4 + 4 = ((x0 :: xs).length + 1) * 4; omega) (by simp only [List.length_append, List.length_cons, List.length_nil]; unfold maxLen; omega) rfl (a_append (m := 1) (ys := lkE (⟨i, i + 1, tv + p.lo, tv + p.hi⟩ : Lk)) rfl rfl rfl rfl (news_own (by repeat (first | exact List.Mem.head _ | apply List.Mem.tail))) (by repeat (first | exact List.Mem.head _ | apply List.Mem.tail)) hgr rfl (allOne_mem rfl) rfl (by rw [List.length_append]; rfl) (by simp only [List.length_append, List.length_cons, List.length_nil]; omega) (by simp only [List.length_append, List.length_cons, List.length_nil]; unfold maxLen; omega)) (fun b7 c7 r7 hg7 => ?_)
              have e1 : ((x0 :: xs).map lkE).flatten ++ lkE (⟨i, i + 1, tv + p.lo, tv + p.hi⟩ : Lk) = (((x0 :: xs) ++ [(⟨i, i + 1, tv + p.lo, tv + p.hi⟩ : Lk)]).map lkE).flatten := by rw [List.map_append, List.flatten_append]; simp
              rw [e1] at hg7 ⊢
              repeat (first | refine l_val rfl rfl (by first | exact v_add rfl rfl (by omega) (by omega) | exact pureEval_ok rfl  | fail) ?_ | refine l_nil ?_ | refine c_region ?_ | refine x_then ?_ | refine x_block ?_ | refine e_val rfl rfl rfl rfl (by first | exact pureEval_ok rfl  | fail) ?_ | refine e_store rfl rfl rfl rfl rfl rfl rfl rfl (by first | rfl  | fail) rfl rfl (by first | (simp; done)  | fail) (by first | exact splice_lit (by rfl)  | fail) ?_ | refine e_nil rfl ?_  | fail)
              refine x_perm ((List.perm_middle (l₁ := [_, _, _])).trans (List.perm_append_singleton _ _).symm) ?_
              exact x_back ⟨⟨i + 1, bf, cf, rf, b7, c7, r7⟩, ⟨j + 1, some ⟨bl, ol, none⟩, 0⟩⟩ ⟨hlt, by rw [hfs]; exact hgf, by rw [hcs]; exact fun _ => hg7, hat2, at_over (show c.ps.length ≤ j + 1 by omega), (show c.ps.length - (j + 1) ≤ 0 by omega)⟩ (by simp only; omega) (by repeat (first | exact EnvSub.nil | refine EnvSub.cons rfl (by first | rfl | (congr 1; done) | (exact congrArg (Value.int _) (by omega)) | (simp; done)) ?_)) (by simp only [hcs, hfs]; exact (by repeat (first | exact MSub.nil | refine MSub.keep (by first | rfl | assumption) ?_ | refine MSub.drop ?_ | exact MSub.refl _)))
          · refine l_val rfl rfl (v_sliceL (l := 1) rfl rfl rfl rfl rfl (by omega) hlc1) ?_
            rw [show c.ps.length - j - 1 = c.ps.length - (j + 1) by omega]
            simp only [List.set_cons_zero]
            repeat ((fail_if_success refine c_probe (id := 21) ?_); (fail_if_success refine c_probe1 (id := 21) ?_); first | refine l_val rfl rfl (by first | exact pureEval_ok rfl  | fail) ?_ | refine l_nil ?_ | refine x_then ?_  | fail)
            obtain ⟨own, hown⟩ : ∃ l, clL c.ts c.ps i = l := ⟨_, rfl⟩
            rw [hlk] at hcs
            rw [hown] at hgc hcs hcl ⊢
            refine c_perm ((List.perm_append_comm.append_left [_, _, _]).trans (List.perm_append_comm_assoc [_, _, _] _ _)) ?_
            cases own with
            | nil =>
              rw [gSl_nil, gM_nil]
              simp only [List.nil_append, List.cons_append]
              refine c_new 2 2 [(5, .new 2), (6, .app 3 none 4), (8, .sto 1 2 1)] [(5,[2]),(6,[3]),(8,[1])] [(3,1),(6,2)] rfl (by decide +kernel) rfl ?_; repeat (first | refine e_val rfl rfl rfl rfl (by first | exact pureEval_ok rfl | exact v_load rfl (by repeat (first | exact List.Mem.head _ | apply List.Mem.tail)) rfl (by rfl)  | fail) ?_ | refine e_new rfl rfl rfl rfl (by first | exact n_buildSlice rfl rfl rfl rfl (by rfl)  | fail) (fun _ => ?_)  | fail)
              refine e_app0 (xs := lkE (⟨i, i + 1, tv + p.lo, tv + p.hi⟩ : Lk)) (n := 1) (e := 55) rfl rfl rfl rfl (by decide) rfl (by decide) rfl (a_append_nil rfl rfl rfl rfl (news_own (by repeat (first | exact List.Mem.head _ | apply List.Mem.tail))) rfl rfl (by decide) (by decide) (by decide)) (fun b7 c7 r7 hg7 => ?_)
              repeat (first | refine l_val rfl rfl (by first | exact v_add rfl rfl (by omega) (by omega) | exact pureEval_ok rfl  | fail) ?_ | refine l_nil ?_ | refine c_region ?_ | refine x_then ?_ | refine x_block ?_ | refine e_val rfl rfl rfl rfl (by first | exact pureEval_ok rfl  | fail) ?_ | refine e_store rfl rfl rfl rfl rfl rfl rfl rfl (by first | rfl  | fail) rfl rfl (by first | (simp; done)  | fail) (by first | exact splice_lit (by rfl)  | fail) ?_ | refine e_nil rfl ?_  | fail)
              refine x_perm ((List.perm_middle (l₁ := [_, _, _])).trans (List.perm_append_singleton _ _).symm) ?_
              exact x_back ⟨⟨i + 1, bf, cf, rf, b7, c7, r7⟩, ⟨j + 1, some ⟨bl, ol + 1 * 4, none⟩, lc - 1⟩⟩ ⟨hlt, by rw [hfs]; exact hgf, by rw [hcs]; exact fun _ => hg7, hat2, at_drop hla, (show c.ps.length - (j + 1) ≤ lc - 1 by omega)⟩ (by simp only; omega) (by repeat (first | exact EnvSub.nil | refine EnvSub.cons rfl (by first | rfl | (congr 1; done) | (exact congrArg (Value.int _) (by omega)) | (simp; done)) ?_)) (by simp only [hcs, hfs]; exact (by repeat (first | exact MSub.nil | refine MSub.keep (by first | rfl | assumption) ?_ | refine MSub.drop ?_ | exact MSub.refl _)))
            | cons x0 xs =>
              have hgr := hgc (by simp)
              rw [gSl_cons, gM_cons]
              simp only [List.nil_append, List.cons_append]
              simp only [List.length_cons] at hcl
              refine c_new 3 2 [(5, .new 3), (6, .app 4 (some 0) 4), (8, .sto 2 2 1)] [(5,[3]),(6,[4,0]),(8,[2])] [(3,2),(6,3),(6,0)] rfl (by decide +kernel) rfl ?_; repeat (first | refine e_val rfl rfl rfl rfl (by first | exact pureEval_ok rfl | exact v_load rfl (by repeat (first | exact List.Mem.head _ | apply List.Mem.tail)) rfl (by rfl)  | fail) ?_ | refine e_new rfl rfl rfl rfl (by first | exact n_buildSlice rfl rfl rfl rfl (by rfl)  | fail) (fun _ => ?_)  | fail)
              refine e_app (xs := ((x0 :: xs).map lkE).flatten ++ lkE (⟨i, i + 1, tv + p.lo, tv + p.hi⟩ : Lk)) (n := ((x0 :: xs) ++ [(⟨i, i + 1, tv + p.lo, tv + p.hi⟩ : Lk)]).length) (e := 55) rfl rfl rfl rfl rfl (by decide) (by rw [List.length_append, rowsE_len, List.length_append]; show (x0 :: xs).length * 4 + 4 = ((x0 :: xs).length + 1) * 4; omega) (by simp only [List.length_append, List.length_cons, List.length_nil]; unfold maxLen; omega) rfl (a_append (m := 1) (ys := lkE (⟨i, i + 1, tv + p.lo, tv + p.hi⟩ : Lk)) rfl rfl rfl rfl (news_own (by repeat (first | exact List.Mem.head _ | apply List.Mem.tail))) (by repeat (first | exact List.Mem.head _ | apply List.Mem.tail)) hgr rfl (allOne_mem rfl) rfl (by rw [List.length_append]; rfl) (by simp only [List.length_append, List.length_cons, List.length_nil]; omega) (by simp only [List.length_append, List.length_cons, List.length_nil]; unfold maxLen; omega)) (fun b7 c7 r7 hg7 => ?_)
              have e1 : ((x0 :: xs).map lkE).flatten ++ lkE (⟨i, i + 1, tv + p.lo, tv + p.hi⟩ : Lk) = (((x0 :: xs) ++ [(⟨i, i + 1, tv + p.lo, tv + p.hi⟩ : Lk)]).map lkE).flatten := by rw [List.map_append, List.flatten_append]; simp
              rw [e1] at hg7 ⊢
              repeat (first | refine l_val rfl rfl (by first | exact v_add rfl rfl (by omega) (by omega) | exact pureEval_ok rfl  | fail) ?_ | refine l_nil ?_ | refine c_region ?_ | refine x_then ?_ | refine x_block ?_ | refine e_val rfl rfl rfl rfl (by first | exact pureEval_ok rfl  | fail) ?_ | refine e_store rfl rfl rfl rfl rfl rfl rfl rfl (by first | rfl  | fail) rfl rfl (by first | (simp; done)  | fail) (by first | exact splice_lit (by rfl)  | fail) ?_ | refine e_nil rfl ?_  | fail)
              refine x_perm ((List.perm_middle (l₁ := [_, _, _])).trans (List.perm_append_singleton _ _).symm) ?_
              exact x_back ⟨⟨i + 1, bf, cf, rf, b7, c7, r7⟩, ⟨j + 1, some ⟨bl, ol + 1 * 4, none⟩, lc - 1⟩⟩ ⟨hlt, by rw [hfs]; exact hgf, by rw [hcs]; exact fun _ => hg7, hat2, at_drop hla, (show c.ps.length - (j + 1) ≤ lc - 1 by omega)⟩ (by simp only; omega) (by repeat (first | exact EnvSub.nil | refine EnvSub.cons rfl (by first | rfl | (congr 1; done) | (exact congrArg (Value.int _) (by omega)) | (simp; done)) ?_)) (by simp only [hcs, hfs]; exact (by repeat (first | exact MSub.nil | refine MSub.keep (by first | rfl | assumption) ?_ | refine MSub.drop ?_ | exact MSub.refl _)))
      · have hpn := q2 hbar
        clear q1 q2
        rw [hpn] at hlk hfr
        have hat2 := at_not hok.ascP hat (by unfold hasP; rw [hp]; exact decide_eq_false hbar)
        have hfr2 : isFr c.ps i = false := hfr
        rw [hfr2, if_neg (by decide)] at hfs hcs
        clear hfr
        simp only [psD, Int.add_zero] at hlk
        repeat ((fail_if_success refine c_probe (id := 21) ?_); (fail_if_success refine c_probe1 (id := 21) ?_); first | refine l_val rfl rfl (by first | exact v_add rfl rfl (by omega) (by omega) | exact pureEval_ok rfl | exact v_load_ext0 rfl (by assumption) rfl (by rfl) | exact v_index rfl rfl rfl rfl (by omega) (by omega) (by with_reducible first | exact idx8 _ _ _   | fail) | exact v_build rfl rfl (by rfl)  | fail) ?_ | refine l_nil ?_ | refine c_region ?_ | refine c_seq ?_ | refine x_then ?_ | refine r_alloc rfl rfl rfl (by first | exact aggL  | fail) (fun _ => ?_) | refine r_store rfl rfl rfl rfl rfl rfl rfl (by repeat (first | exact Upd.head | apply Upd.tail)) (by rfl) ?_ | refine c_false rfl ?_ | refine c_dec_f rfl (by first | omega  | fail) ?_ | refine c_skip ?_ | refine l_dec_t rfl rfl rfl rfl rfl (by first | omega  | fail) ?_  | fail)
        obtain ⟨own, hown⟩ : ∃ l, clL c.ts c.ps i = l := ⟨_, rfl⟩
        rw [hlk] at hcs
        rw [hown] at hgc hcs hcl ⊢
        refine c_perm ((List.perm_append_comm.append_left [_, _, _]).trans (List.perm_append_comm_assoc [_, _, _] _ _)) ?_
        cases own with
        | nil =>
          rw [gSl_nil, gM_nil]
          simp only [List.nil_append, List.cons_append]
          refine c_new 2 2 [(5, .new 2), (6, .app 3 none 4), (8, .sto 1 2 1)] [(5,[2]),(6,[3]),(8,[1])] [(3,1),(6,2)] rfl (by decide +kernel) rfl ?_; repeat (first | refine e_val rfl rfl rfl rfl (by first | exact pureEval_ok rfl | exact v_load rfl (by repeat (first | exact List.Mem.head _ | apply List.Mem.tail)) rfl (by rfl)  | fail) ?_ | refine e_new rfl rfl rfl rfl (by first | exact n_buildSlice rfl rfl rfl rfl (by rfl)  | fail) (fun _ => ?_)  | fail)
          refine e_app0 (xs := lkE (⟨i, i + 1, tv, tv⟩ : Lk)) (n := 1) (e := 55) rfl rfl rfl rfl (by decide) rfl (by decide) rfl (a_append_nil rfl rfl rfl rfl (news_own (by repeat (first | exact List.Mem.head _ | apply List.Mem.tail))) rfl rfl (by decide) (by decide) (by decide)) (fun b7 c7 r7 hg7 => ?_)
          repeat (first | refine l_val rfl rfl (by first | exact v_add rfl rfl (by omega) (by omega) | exact pureEval_ok rfl  | fail) ?_ | refine l_nil ?_ | refine c_region ?_ | refine x_then ?_ | refine x_block ?_ | refine e_val rfl rfl rfl rfl (by first | exact pureEval_ok rfl  | fail) ?_ | refine e_store rfl rfl rfl rfl rfl rfl rfl rfl (by first | rfl  | fail) rfl rfl (by first | (simp; done)  | fail) (by first | exact splice_lit (by rfl)  | fail) ?_ | refine e_nil rfl ?_  | fail)
          refine x_perm ((List.perm_middle (l₁ := [_, _, _])).trans (List.perm_append_singleton _ _).symm) ?_
          exact x_back ⟨⟨i + 1, bf, cf, rf, b7, c7, r7⟩, ⟨j, some ⟨bl, ol, none⟩, lc⟩⟩ ⟨hlt, by rw [hfs]; exact hgf, by rw [hcs]; exact fun _ => hg7, hat2, hla, hlc⟩ (by simp only; omega) (by repeat (first | exact EnvSub.nil | refine EnvSub.cons rfl (by first | rfl | (congr 1; done) | (exact congrArg (Value.int _) (by omega)) | (simp; done)) ?_)) (by simp only [hcs, hfs]; exact (by repeat (first | exact MSub.nil | refine MSub.keep (by first | rfl | assumption) ?_ | refine MSub.drop ?_ | exact MSub.refl _)))
        | cons x0 xs =>
          have hgr := hgc (by simp)
          rw [gSl_cons, gM_cons]
          simp only [List.nil_append, List.cons_append]
          simp only [List.length_cons] at hcl
          refine c_new 3 2 [(5, .new 3), (6, .app 4 (some 0) 4), (8, .sto 2 2 1)] [(5,[3]),(6,[4,0]),(8,[2])] [(3,2),(6,3),(6,0)] rfl (by decide +kernel) rfl ?_; repeat (first | refine e_val rfl rfl rfl rfl (by first | exact pureEval_ok rfl | exact v_load rfl (by repeat (first | exact List.Mem.head _ | apply List.Mem.tail)) rfl (by rfl)  | fail) ?_ | refine e_new rfl rfl rfl rfl (by first | exact n_buildSlice rfl rfl rfl rfl (by rfl)  | fail) (fun _ => ?_)  | fail)
          refine e_app (xs := ((x0 :: xs).map lkE).flatten ++ lkE (⟨i, i + 1, tv, tv⟩ : Lk)) (n := ((x0 :: xs) ++ [(⟨i, i + 1, tv, tv⟩ : Lk)]).length) (e := 55) rfl rfl rfl rfl rfl (by decide) (by rw [List.length_append, rowsE_len, List.length_append]; show (x0 :: xs).length * 4 + 4 = ((x0 :: xs).length + 1) * 4; omega) (by simp only [List.length_append, List.length_cons, List.length_nil]; unfold maxLen; omega) rfl (a_append (m := 1) (ys := lkE (⟨i, i + 1, tv, tv⟩ : Lk)) rfl rfl rfl rfl (news_own (by repeat (first | exact List.Mem.head _ | apply List.Mem.tail))) (by repeat (first | exact List.Mem.head _ | apply List.Mem.tail)) hgr rfl (allOne_mem rfl) rfl (by rw [List.length_append]; rfl) (by simp only [List.length_append, List.length_cons, List.length_nil]; omega) (by simp only [List.length_append, List.length_cons, List.length_nil]; unfold maxLen; omega)) (fun b7 c7 r7 hg7 => ?_)
          have e1 : ((x0 :: xs).map lkE).flatten ++ lkE (⟨i, i + 1, tv, tv⟩ : Lk) = (((x0 :: xs) ++ [(⟨i, i + 1, tv, tv⟩ : Lk)]).map lkE).flatten := by rw [List.map_append, List.flatten_append]; simp
          rw [e1] at hg7 ⊢
          repeat (first | refine l_val rfl rfl (by first | exact v_add rfl rfl (by omega) (by omega) | exact pureEval_ok rfl  | fail) ?_ | refine l_nil ?_ | refine c_region ?_ | refine x_then ?_ | refine x_block ?_ | refine e_val rfl rfl rfl rfl (by first | exact pureEval_ok rfl  | fail) ?_ | refine e_store rfl rfl rfl rfl rfl rfl rfl rfl (by first | rfl  | fail) rfl rfl (by first | (simp; done)  | fail) (by first | exact splice_lit (by rfl)  | fail) ?_ | refine e_nil rfl ?_  | fail)
          refine x_perm ((List.perm_middle (l₁ := [_, _, _])).trans (List.perm_append_singleton _ _).symm) ?_
          exact x_back ⟨⟨i + 1, bf, cf, rf, b7, c7, r7⟩, ⟨j, some ⟨bl, ol, none⟩, lc⟩⟩ ⟨hlt, by rw [hfs]; exact hgf, by rw [hcs]; exact fun _ => hg7, hat2, hla, hlc⟩ (by simp only; omega) (by repeat (first | exact EnvSub.nil | refine EnvSub.cons rfl (by first | rfl | (congr 1; done) | (exact congrArg (Value.int _) (by omega)) | (simp; done)) ?_)) (by simp only [hcs, hfs]; exact (by repeat (first | exact MSub.nil | refine MSub.keep (by first | rfl | assumption) ?_ | refine MSub.drop ?_ | exact MSub.refl _)))
  · have hie : i = N := by omega
    subst hie
    have hNn : c.n.toNat = i := by omega
    have hfl := frL_le c.ts c.ps i
    have hcl := clL_le c.ts c.ps i
    have hsl := spL_len c.sp
    have hlim := hok.lim
    rw [hNn] at hyes
    have hmany := ofE_many (c := c) (hdef ())
    have hfew := ofE_ok (c := c) (hdef ()) h2
    rw [hNn] at hmany hfew
    have hmany' := fun (_ : Unit) => hmany
    have hfew' := fun (_ : Unit) => hfew
    have hyes' := fun (_ : Unit) => hyes
    clear hmany hfew hyes hno
    repeat (first | refine l_val rfl rfl (by first | exact pureEval_ok rfl | exact v_load rfl (by repeat (first | exact List.Mem.head _ | apply List.Mem.tail)) rfl (by rfl)  | fail) ?_ | refine l_nil ?_ | refine c_region ?_ | refine c_seq ?_ | refine x_then ?_ | refine c_dec_f rfl (by first | omega  | fail) ?_ | refine c_exit ?_ | refine x_then_exit ?_ | refine x_block_same ?_  | fail)
    refine r_appendZ (f := lkE) (e := 55) (sz := 4) (xs := frL c.ts c.ps i) (ys := spL c.sp) (m := c.sp.length) rfl rfl rfl rfl rfl rfl hsl.symm (by rw [← hsl]; exact newsG_at hC) (List.perm_append_comm_assoc [_, _] _ _) hgf rowsE_len (rowsE_one _) rfl (by omega) (by unfold maxLen; omega) (fun b' c' r' hg' => ?_)
    refine l_perm (List.perm_append_comm_assoc _ [_, _] _) ?_
    obtain ⟨A', k', hA'⟩ := gSl_len (l := frL c.ts c.ps i ++ spL c.sp) (b := b') (cap := c')
    obtain ⟨B', k2, hB'⟩ := gSl_len (l := clL c.ts c.ps i) (b := bc) (cap := cc)
    rw [hA', hB']
    simp only [List.cons_append, List.nil_append]
    by_cases hm : 256 < (frL c.ts c.ps i ++ spL c.sp).length
    · have hE := hmany' () hm
      repeat (first | refine l_val rfl rfl (by first | exact pureEval_ok rfl | exact v_load rfl (by repeat (first | exact List.Mem.head _ | apply List.Mem.tail)) rfl (by rfl) | exact v_build rfl rfl (by rfl)  | fail) ?_ | refine l_nil ?_ | refine c_region ?_ | refine c_seq ?_ | refine x_then ?_ | refine r_store rfl rfl rfl rfl rfl rfl rfl (by repeat (first | exact Upd.head | apply Upd.tail)) (by rfl) ?_ | refine c_dec_t rfl (by first | omega  | fail) ?_ | refine c_ret ?_ | refine x_then_ret ?_  | fail)
      exact x_ret rfl rfl (by repeat (first | exact Res.nil | (apply Res.tmp; rfl) | (apply Res.cell; rfl; exact (by repeat (first | exact List.Mem.head _ | apply List.Mem.tail)); rfl; rfl))) rfl (fun W hW => of_zero (by rw [hE]; decide) hE hW.below)
    · have hE := hfew' () hm
      obtain ⟨y1, y2, y3⟩ := hyes' () hE
      repeat (first | refine l_val rfl rfl (by first | exact pureEval_ok rfl | exact v_load rfl (by repeat (first | exact List.Mem.head _ | apply List.Mem.tail)) rfl (by rfl)  | fail) ?_ | refine l_nil ?_ | refine c_region ?_ | refine c_seq ?_ | refine x_then ?_ | refine r_store rfl rfl rfl rfl rfl rfl rfl (by repeat (first | exact Upd.head | apply Upd.tail)) (by rfl) ?_ | refine c_dec_f rfl (by first | omega  | fail) ?_ | refine c_skip ?_ | refine c_ret ?_  | fail)
      refine x_ret rfl rfl (by repeat (first | exact Res.nil | (apply Res.tmp; rfl) | (apply Res.cell; rfl; exact (by repeat (first | exact List.Mem.head _ | apply List.Mem.tail)); rfl; rfl))) rfl (fun W hW => ?_)
      obtain ⟨A2, c2, e2, f2⟩ := gfr (l := frL c.ts c.ps i ++ spL c.sp) (b := b') (cap := c') (rest := r') hW (fun p hp => by repeat (first | exact List.mem_append_left _ hp | apply List.Mem.tail))
      obtain ⟨A3, c3, e3, f3⟩ := gfr (l := clL c.ts c.ps i) (b := bc) (cap := cc) (rest := rc) hW (fun p hp => by repeat (first | exact List.mem_append_right _ hp | apply List.Mem.tail))
      rw [hA'] at e2
      rw [hB'] at e3
      injection e2 with e2
      injection e3 with e3
      rw [← e2] at f2
      rw [← e3] at f3
      exact ⟨A', B', k', k2, by rw [y1, y2, y3, hE], by rw [y2]; exact f2, by rw [y3]; exact f3, hW.below⟩
end R23
end Go.Proofs
