/- Uncertain networks: the network of a clock in the specification, walked. -/
import Derived.Test.YtnmbglemgkopaaaCtQ
set_option linter.unusedSectionVars false
set_option linter.unusedVariables false
set_option linter.unusedSimpArgs false
namespace Go.Proofs
open Go.RowKit Go.Kin Go.Kin.St Go.Kin.Ct Go.Kin.Tm
open R22
namespace R23
open R13 (Clk psE spE v2 tkA)
theorem rowsE_len (zs : List Lk) : ((zs.map lkE).flatten).length = zs.length * 4 := by
  induction zs with
  | nil => rfl
  | cons x l ih => rw [List.map_cons, List.flatten_cons, List.length_append, ih, List.length_cons]; show 4 + _ = _; omega
theorem rowsE_one (zs : List Lk) : allOne ((zs.map lkE).flatten) = true := by
  induction zs with
  | nil => rfl
  | cons x l ih => exact ih
/-- slices that came in as what is appended -/
theorem newsG_at {F : Fence} {n : Nat} {ds : List Deferred} {w : World} {J : (Nat → Prop) → World → Prop} {mem : List (Nat × Obj)} {A : Option Addr} {l : List Lk} (h : Kin.At w A 4 (l.map lkE)) : NewsG ⟨F, n, ds, w, base w, J⟩ mem A l.length ((l.map lkE).flatten) := by
  cases l with
  | nil => exact .inl ⟨rfl, rfl⟩
  | cons x l =>
    obtain ⟨b, o, rfl, -⟩ := h 0 (lkE x) rfl
    refine .inr ⟨b, o, rfl, ⟨fun W hW j v hj => ?_⟩⟩
    have hj2 : j < ((x :: l).map lkE).flatten.length := (List.getElem?_eq_some_iff.1 hj).1
    rw [rowsE_len] at hj2
    obtain ⟨y, hy⟩ : ∃ y, (x :: l)[j / 4]? = some y := ⟨_, List.getElem?_eq_getElem (by omega)⟩
    obtain ⟨b', o', e, hc⟩ := (h.sat hW) (j / 4) (lkE y) (by rw [List.getElem?_map, hy]; rfl)
    cases e
    have hr := (rowAt_flatten (rest := []) (rs := (x :: l).map lkE) (sz := 4) (i := j / 4) (r := lkE y) (fun r hr => by obtain ⟨z, _, rfl⟩ := List.mem_map.1 hr; rfl) (by rw [List.getElem?_map, hy]; rfl))
    have h4 : j % 4 < 4 := Nat.mod_lt _ (by decide)
    obtain ⟨u, hu⟩ : ∃ u, (lkE y)[j % 4]? = some u := ⟨_, List.getElem?_eq_getElem (show j % 4 < 4 from h4)⟩
    have h5 := hr.get hu
    rw [List.append_nil, show j / 4 * 4 + j % 4 = j by omega] at h5
    rw [h5] at hj
    cases hj
    have h6 := hc (j % 4) _ hu
    rw [show o + j / 4 * 4 + j % 4 = o + j by omega] at h6
    exact h6
structure OS where
  i : Nat
  bf : Nat
  cf : Nat
  rf : List Value
  bc : Nat
  cc : Nat
  rc : List Value
theorem gfr {w W : World} {mem : List (Nat × Obj)} {l : List Lk} {b cap : Nat} {rest : List Value} (hW : SatW w (base w) noJ mem W) (hm : ∀ p ∈ gM lkE 55 l b rest, p ∈ mem) : ∃ A c, gSl l b cap = .slice A l.length c ∧ Fr w W A 4 (l.map lkE) := by
  cases l with
  | nil => exact ⟨none, 0, rfl, Fr.nil⟩
  | cons x l =>
    have h := hW.own _ (hm _ (List.mem_singleton.2 rfl))
    exact ⟨_, cap, rfl, fr_rows (Nat.le_of_not_lt h.1) (fun r hr => by obtain ⟨z, _, rfl⟩ := List.mem_map.1 hr; rfl) h.2⟩
theorem psAt_get : ∀ {ps : List Ps} {k : Int} {p : Ps}, psAt ps k = some p → ∃ i : Nat, ps[i]? = some p ∧ p.bar = k
  | [], _, _, h => by cases h
  | q :: ps, k, p, h => by
    rw [psAt] at h
    split at h
    · rename_i e
      cases h
      exact ⟨0, rfl, e⟩
    · obtain ⟨i, h1, h2⟩ := psAt_get h
      exact ⟨i + 1, by simpa using h1, h2⟩
theorem psD_bd {ps : List Ps} {n : Int} (ha : ascP (-1) n ps = true) (k : Int) : 0 ≤ (psD (psAt ps k)).lo ∧ (psD (psAt ps k)).lo ≤ 1048576 ∧ 0 ≤ (psD (psAt ps k)).hi ∧ (psD (psAt ps k)).hi ≤ 1048576 := by
  cases h : psAt ps k with
  | none => simp [psD]
  | some p =>
    obtain ⟨i, h1, -⟩ := psAt_get h
    have := ascP_get ha h1
    simp only [psD]
    omega
theorem ofLk_eq (ts : List Tp) (ps : List Ps) (i : Nat) : ofLk ts ps i = ⟨i, i + 1, tk ts i + (psD (psAt ps i)).lo, tk ts i + (psD (psAt ps i)).hi⟩ := by
  unfold ofLk
  cases psAt ps i with
  | none => simp [psD]
  | some p => rfl
theorem isFr_eq (ps : List Ps) (i : Nat) : isFr ps i = ((psAt ps i).isSome && decide ((psD (psAt ps i)).kind = 1)) := by
  unfold isFr
  cases psAt ps i with
  | none => rfl
  | some p => exact (Bool.true_and _).symm
theorem of_zero {c : Clk} {w W : World} (h : ofE c ≠ 0) {e : Int} (he : ofE c = e) (hb : Below w.heap.size w W) : OfQ c w (.returned (.tuple ⟨[.agg ⟨[.int .i64 0, .slice none 0 0, .slice none 0 0]⟩, .int .i64 e]⟩)) W := by
  obtain ⟨h1, h2, h3⟩ := of_no h
  exact ⟨none, none, 0, 0, by rw [h1, h2, h3, he]; rfl, by rw [h2]; exact Fr.nil, by rw [h3]; exact Fr.nil, hb⟩
set_option maxRecDepth 100000 in
set_option maxHeartbeats 40000000 in
theorem rOf_calls (c : Clk) (w : World) (hl : c.Sm) (hA : c.In w) : Calls Try.prog 15 ⟨[.agg ⟨c.v⟩]⟩ w (OfQ c w) := by
  have hck : ∀ (mem : List (Nat × Obj)) (W : World), SatW w (base w) noJ mem W → Calls Try.prog 36 ⟨[.agg ⟨c.v⟩]⟩ W fun e w' => e = .returned (.int .i64 c.k) ∧ Below W.heap.size W w' := fun mem W hW => R13.rcheckK c W hl (hA.sat hW)
  have htk : ∀ (i : Int) (mem : List (Nat × Obj)) (W : World), SatW w (base w) noJ mem W → Calls Try.prog 37 ⟨[.agg ⟨c.v⟩, .int .i64 i]⟩ W fun e w' => e = .returned (v2 (tkA c i)) ∧ Below W.heap.size W w' := fun i mem W hW => R13.rTicks_calls c i W hl (hA.sat hW)
  have hps : ∀ (i : Int) (mem : List (Nat × Obj)) (W : World), SatW w (base w) noJ mem W → Calls Try.prog 38 ⟨[.agg ⟨c.v⟩, .int .i64 i]⟩ W fun e w' => e = .returned (.tuple ⟨[.agg ⟨psE (psD (psAt c.ps i))⟩, .bool (psAt c.ps i).isSome]⟩) ∧ Below W.heap.size W w' := fun i mem W hW => pause_calls c i W hl.b (hA.sat hW)
  have hC : Kin.At w c.C 4 ((spL c.sp).map lkE) := by rw [spL_rows]; exact hA.c
  have hno := of_no (c := c)
  have hyes := of_yes (c := c)
  refine fun_enter Try.func15 rfl Try.ntmps15 rfl rfl (satW_nil w) ?_
  repeat (first | refine l_val rfl rfl (by first | exact pureEval_ok rfl | exact v_load rfl (by repeat (first | exact List.Mem.head _ | apply List.Mem.tail)) rfl (by rfl)  | fail) ?_ | refine l_nil ?_ | refine c_region ?_ | refine c_seq ?_ | refine x_then ?_ | refine r_box rfl rfl rfl rfl (fun _ => ?_) | refine r_alloc rfl rfl rfl (by first | exact aggL  | fail) (fun _ => ?_)  | fail)
  refine r_call rfl rfl rfl (fun W hW => hck _ W hW) ?_
  by_cases h0 : c.k = 0
  rotate_left
  · have hE : ofE c ≠ 0 := by rw [ofE_chk h0]; exact h0
    repeat (first | refine l_val rfl rfl (by first | exact pureEval_ok rfl | exact v_build rfl rfl (by rfl)  | fail) ?_ | refine l_nil ?_ | refine c_region ?_ | refine c_seq ?_ | refine x_then ?_ | refine r_store rfl rfl rfl rfl rfl rfl rfl (by repeat (first | exact Upd.head | apply Upd.tail)) (by rfl) ?_ | refine c_dec_t rfl (by first | omega  | fail) ?_ | refine c_ret ?_ | refine x_then_ret ?_  | fail)
    exact x_ret rfl rfl (by repeat (first | exact Res.nil | (apply Res.tmp; rfl) | (apply Res.cell; rfl; exact (by repeat (first | exact List.Mem.head _ | apply List.Mem.tail)); rfl; rfl))) rfl (fun W hW => of_zero hE (ofE_chk h0) hW.below)
  have hok := Tm.chk_ok.1 h0
  have hn1 := hok.n1
  have hn2 := hok.n2
  have hdef := fun (_ : Unit) => h0
  rw [h0]
  clear h0
  by_cases h2 : 63 < c.n
  · have hE := ofE_big (hdef ()) h2
    repeat (first | refine l_val rfl rfl (by first | exact pureEval_ok rfl | exact v_load rfl (by repeat (first | exact List.Mem.head _ | apply List.Mem.tail)) rfl (by rfl) | exact v_build rfl rfl (by rfl)  | fail) ?_ | refine l_nil ?_ | refine c_region ?_ | refine c_seq ?_ | refine x_then ?_ | refine r_store rfl rfl rfl rfl rfl rfl rfl (by repeat (first | exact Upd.head | apply Upd.tail)) (by rfl) ?_ | refine c_false rfl ?_ | refine c_dec_t rfl (by first | omega  | fail) ?_ | refine c_skip ?_ | refine c_ret ?_ | refine x_then_ret ?_  | fail)
    exact x_ret rfl rfl (by repeat (first | exact Res.nil | (apply Res.tmp; rfl) | (apply Res.cell; rfl; exact (by repeat (first | exact List.Mem.head _ | apply List.Mem.tail)); rfl; rfl))) rfl (fun W hW => of_zero (by rw [hE]; decide) hE hW.below)
  have htt : ∀ i : Nat, (i : Int) < c.n → tkA c i = (tk c.ts i, 0) := fun i hi => R13.tkA_in (hdef ()) ⟨by omega, by omega⟩
  have htb := hok.bars
  have hpb := psD_bd hok.ascP
  obtain ⟨N, hN⟩ : ∃ N : Nat, c.n = N := ⟨c.n.toNat, by omega⟩
  repeat (first | refine l_val rfl rfl (by first | exact v_add rfl rfl (by omega) (by omega) | exact pureEval_ok rfl | exact v_load rfl (by repeat (first | exact List.Mem.head _ | apply List.Mem.tail)) rfl (by rfl) | exact v_build rfl rfl (by rfl)  | fail) ?_ | refine l_nil ?_ | refine c_region ?_ | refine c_seq ?_ | refine x_then ?_ | refine r_alloc rfl rfl rfl (by first | exact aggL  | fail) (fun _ => ?_) | refine r_store rfl rfl rfl rfl rfl rfl rfl (by repeat (first | exact Upd.head | apply Upd.tail)) (by rfl) ?_ | refine c_false rfl ?_ | refine c_dec_f rfl (by first | omega  | fail) ?_ | refine c_block ?_ | refine c_skip ?_  | fail)
  rename_i b1 b2 b5
  refine c_loop (ι := OS) (fun s => s.i ≤ N ∧ gOK lkE 4 (frL c.ts c.ps s.i) s.cf s.rf ∧ gOK lkE 4 (clL c.ts c.ps s.i) s.cc s.rc) (fun s => [(1, .pointer (some ⟨b1, 0, none⟩)), (2, .pointer (some ⟨b2, 0, none⟩)), (3, .int .i64 0), (5, .pointer (some ⟨b5, 0, none⟩)), (6, .int .i64 s.i)])
    (fun s => (b5, .cells ⟨[.int .i64 (c.n + 1), gSl (frL c.ts c.ps s.i) s.bf s.cf, gSl (clL c.ts c.ps s.i) s.bc s.cc]⟩ 24 (0, 0)) :: (b2, .cells ⟨[.int .i64 0, .slice none 0 0, .slice none 0 0]⟩ 24 (0, 0)) :: (b1, .cells ⟨c.v⟩ 28 (0, 0)) :: (gM lkE 55 (frL c.ts c.ps s.i) s.bf s.rf ++ gM lkE 55 (clL c.ts c.ps s.i) s.bc s.rc))
    (fun s => N - s.i) ⟨0, 0, 0, [], 0, 0, []⟩ ⟨Nat.zero_le _, fun h => absurd rfl h, fun h => absurd rfl h⟩ (by repeat (first | exact EnvSub.nil | refine EnvSub.cons rfl (by first | rfl | (congr 1; done) | (exact congrArg (Value.int _) (by omega)) | (simp; done)) ?_)) (by repeat (first | exact MSub.nil | refine MSub.keep (by first | rfl | assumption) ?_ | refine MSub.drop ?_ | exact MSub.refl _)) ?_
  rintro ⟨i, bf, cf, rf, bc, cc, rc⟩ ⟨hi, hgf, hgc⟩
  simp only at hi hgf hgc ⊢
  by_cases hlt : i < N
  · have ht := htt i (by omega)
    have htb1 := htb i (by omega) (by omega)
    obtain ⟨x1, x2, x3, x4⟩ := hpb i
    have hlk := ofLk_eq c.ts c.ps i
    have hfr := isFr_eq c.ps i
    have hfs := frL_succ c.ts c.ps i
    have hcs := clL_succ c.ts c.ps i
    have hfl := frL_le c.ts c.ps i
    have hcl := clL_le c.ts c.ps i
    repeat (first | refine l_val rfl rfl (by first | exact pureEval_ok rfl | exact v_load rfl (by repeat (first | exact List.Mem.head _ | apply List.Mem.tail)) rfl (by rfl)  | fail) ?_ | refine l_nil ?_ | refine c_region ?_ | refine c_seq ?_ | refine x_then ?_ | refine c_dec_t rfl (by first | omega  | fail) ?_ | refine c_block ?_ | refine c_skip ?_  | fail)
    refine r_call rfl rfl rfl (fun W hW => htk i _ W hW) ?_
    rw [ht]
    dsimp only [v2]
    repeat (first | refine l_val rfl rfl (by first | exact pureEval_ok rfl | exact v_load rfl (by repeat (first | exact List.Mem.head _ | apply List.Mem.tail)) rfl (by rfl)  | fail) ?_ | refine l_nil ?_ | refine c_region ?_ | refine c_seq ?_ | refine x_then ?_  | fail)
    refine r_call rfl rfl rfl (fun W hW => hps i _ W hW) ?_
    obtain ⟨sm, hsm⟩ : ∃ b, (psAt c.ps i).isSome = b := ⟨_, rfl⟩
    obtain ⟨x, hx⟩ : ∃ x, psD (psAt c.ps i) = x := ⟨_, rfl⟩
    obtain ⟨tv, htv⟩ : ∃ x, tk c.ts i = x := ⟨_, rfl⟩
    rw [hsm, hx] at hfr
    rw [hx, htv] at hlk
    rw [hx] at x1 x2 x3 x4
    rw [htv] at htb1
    rw [hsm, hx, htv]
    unfold psE
    by_cases hfree : sm = true ∧ x.kind = 1
    · obtain ⟨k1, k2⟩ := hfree
      subst k1
      rw [k2, decide_eq_true rfl] at hfr
      rw [hfr, if_pos (show (true && true) = true from rfl)] at hfs hcs
      rw [hlk] at hfs
      rw [k2]
      repeat (first | refine l_val rfl rfl (by first | exact v_add rfl rfl (by omega) (by omega) | exact pureEval_ok rfl | exact v_load rfl (by repeat (first | exact List.Mem.head _ | apply List.Mem.tail)) rfl (by rfl) | exact v_build rfl rfl (by rfl)  | fail) ?_ | refine l_nil ?_ | refine c_region ?_ | refine c_seq ?_ | refine x_then ?_ | refine r_alloc rfl rfl rfl (by first | exact aggL  | fail) (fun _ => ?_) | refine r_store rfl rfl rfl rfl rfl rfl rfl (by repeat (first | exact Upd.head | apply Upd.tail)) (by rfl) ?_ | refine r_buildSlice rfl rfl rfl rfl rfl rfl (by rfl) (fun _ => ?_) | refine c_true rfl ?_  | fail)
      refine r_appendZ (f := lkE) (e := 55) (sz := 4) (xs := frL c.ts c.ps i) (ys := [⟨i, i + 1, tv + x.lo, tv + x.hi⟩]) (m := 1) rfl rfl rfl rfl rfl rfl rfl (.inr ⟨_, 0, rfl, news_own (by repeat (first | exact List.Mem.head _ | apply List.Mem.tail))⟩) (List.perm_append_comm_assoc [_, _, _, _, _, _] _ _) hgf rowsE_len rfl rfl (by omega) (by unfold maxLen; omega) (fun b' c' r' hg' => ?_)
      rw [← hfs] at hg' ⊢
      refine l_perm (List.perm_append_comm_assoc _ [_, _, _, _, _, _] _) ?_
      obtain ⟨A', k', hA'⟩ := gSl_len (l := frL c.ts c.ps (i + 1)) (b := b') (cap := c')
      rw [hA']
      simp only [List.cons_append, List.nil_append]
      repeat (first | refine l_val rfl rfl (by first | exact v_add rfl rfl (by omega) (by omega) | exact pureEval_ok rfl  | fail) ?_ | refine l_nil ?_ | refine c_region ?_ | refine x_then ?_ | refine r_store rfl rfl rfl rfl rfl rfl rfl (by repeat (first | exact Upd.head | apply Upd.tail)) (by rfl) ?_ | refine x_block ?_  | fail)
      rw [← hA']
      refine x_back ⟨i + 1, b', c', r', bc, cc, rc⟩ ⟨hlt, hg', by rw [hcs]; exact hgc⟩ (by simp only; omega) (by repeat (first | exact EnvSub.nil | refine EnvSub.cons rfl (by first | rfl | (congr 1; done) | (exact congrArg (Value.int _) (by omega)) | (simp; done)) ?_)) ?_
      rw [hcs]
      exact (by repeat (first | exact MSub.nil | refine MSub.keep (by first | rfl | assumption) ?_ | refine MSub.drop ?_ | exact MSub.refl _))
    · have hfr2 : isFr c.ps i = false := by
        rw [hfr]
        cases sm with
        | false => rfl
        | true => rw [decide_eq_false (fun h => hfree ⟨rfl, h⟩)]; rfl
      rw [hfr2, if_neg (by decide)] at hfs hcs
      rw [hlk] at hcs
      cases sm with
      | false =>
        clear hfree
        repeat (first | refine l_val rfl rfl (by first | exact v_add rfl rfl (by omega) (by omega) | exact pureEval_ok rfl | exact v_load rfl (by repeat (first | exact List.Mem.head _ | apply List.Mem.tail)) rfl (by rfl) | exact v_build rfl rfl (by rfl)  | fail) ?_ | refine l_nil ?_ | refine c_region ?_ | refine c_seq ?_ | refine x_then ?_ | refine l_skip rfl rfl ?_ | refine r_alloc rfl rfl rfl (by first | exact aggL  | fail) (fun _ => ?_) | refine r_store rfl rfl rfl rfl rfl rfl rfl (by repeat (first | exact Upd.head | apply Upd.tail)) (by rfl) ?_ | refine r_buildSlice rfl rfl rfl rfl rfl rfl (by rfl) (fun _ => ?_) | refine c_false rfl ?_  | fail)
        refine r_appendZ (f := lkE) (e := 55) (sz := 4) (xs := clL c.ts c.ps i) (ys := [⟨i, i + 1, tv + x.lo, tv + x.hi⟩]) (m := 1) rfl rfl rfl rfl rfl rfl rfl (.inr ⟨_, 0, rfl, news_own (by repeat (first | exact List.Mem.head _ | apply List.Mem.tail))⟩) ((List.perm_append_comm.append_left [_, _, _, _, _, _]).trans (List.perm_append_comm_assoc [_, _, _, _, _, _] _ _)) hgc rowsE_len rfl rfl (by omega) (by unfold maxLen; omega) (fun b' c' r' hg' => ?_)
        rw [← hcs] at hg' ⊢
        refine l_perm ((List.perm_append_comm_assoc _ [_, _, _, _, _, _] _).trans (List.perm_append_comm.append_left [_, _, _, _, _, _])) ?_
        obtain ⟨A', k', hA'⟩ := gSl_len (l := clL c.ts c.ps (i + 1)) (b := b') (cap := c')
        rw [hA']
        simp only [List.cons_append, List.nil_append]
        repeat (first | refine l_val rfl rfl (by first | exact v_add rfl rfl (by omega) (by omega) | exact pureEval_ok rfl  | fail) ?_ | refine l_nil ?_ | refine c_region ?_ | refine x_then ?_ | refine r_store rfl rfl rfl rfl rfl rfl rfl (by repeat (first | exact Upd.head | apply Upd.tail)) (by rfl) ?_ | refine x_block ?_  | fail)
        rw [← hA']
        refine x_back ⟨i + 1, bf, cf, rf, b', c', r'⟩ ⟨hlt, by rw [hfs]; exact hgf, hg'⟩ (by simp only; omega) (by repeat (first | exact EnvSub.nil | refine EnvSub.cons rfl (by first | rfl | (congr 1; done) | (exact congrArg (Value.int _) (by omega)) | (simp; done)) ?_)) ?_
        rw [hfs]
        exact (by repeat (first | exact MSub.nil | refine MSub.keep (by first | rfl | assumption) ?_ | refine MSub.drop ?_ | exact MSub.refl _))
      | true =>
        have hk1 : ¬ x.kind = 1 := fun h => hfree ⟨rfl, h⟩
        clear hfree
        repeat (first | refine l_val rfl rfl (by first | exact v_add rfl rfl (by omega) (by omega) | exact pureEval_ok rfl | exact v_load rfl (by repeat (first | exact List.Mem.head _ | apply List.Mem.tail)) rfl (by rfl) | exact v_build rfl rfl (by rfl)  | fail) ?_ | refine l_nil ?_ | refine c_region ?_ | refine c_seq ?_ | refine x_then ?_ | refine r_alloc rfl rfl rfl (by first | exact aggL  | fail) (fun _ => ?_) | refine r_store rfl rfl rfl rfl rfl rfl rfl (by repeat (first | exact Upd.head | apply Upd.tail)) (by rfl) ?_ | refine r_buildSlice rfl rfl rfl rfl rfl rfl (by rfl) (fun _ => ?_) | refine c_dec_f rfl (by first | omega  | fail) ?_  | fail)
        refine r_appendZ (f := lkE) (e := 55) (sz := 4) (xs := clL c.ts c.ps i) (ys := [⟨i, i + 1, tv + x.lo, tv + x.hi⟩]) (m := 1) rfl rfl rfl rfl rfl rfl rfl (.inr ⟨_, 0, rfl, news_own (by repeat (first | exact List.Mem.head _ | apply List.Mem.tail))⟩) ((List.perm_append_comm.append_left [_, _, _, _, _, _]).trans (List.perm_append_comm_assoc [_, _, _, _, _, _] _ _)) hgc rowsE_len rfl rfl (by omega) (by unfold maxLen; omega) (fun b' c' r' hg' => ?_)
        rw [← hcs] at hg' ⊢
        refine l_perm ((List.perm_append_comm_assoc _ [_, _, _, _, _, _] _).trans (List.perm_append_comm.append_left [_, _, _, _, _, _])) ?_
        obtain ⟨A', k', hA'⟩ := gSl_len (l := clL c.ts c.ps (i + 1)) (b := b') (cap := c')
        rw [hA']
        simp only [List.cons_append, List.nil_append]
        repeat (first | refine l_val rfl rfl (by first | exact v_add rfl rfl (by omega) (by omega) | exact pureEval_ok rfl  | fail) ?_ | refine l_nil ?_ | refine c_region ?_ | refine x_then ?_ | refine r_store rfl rfl rfl rfl rfl rfl rfl (by repeat (first | exact Upd.head | apply Upd.tail)) (by rfl) ?_ | refine x_block ?_  | fail)
        rw [← hA']
        refine x_back ⟨i + 1, bf, cf, rf, b', c', r'⟩ ⟨hlt, by rw [hfs]; exact hgf, hg'⟩ (by simp only; omega) (by repeat (first | exact EnvSub.nil | refine EnvSub.cons rfl (by first | rfl | (congr 1; done) | (exact congrArg (Value.int _) (by omega)) | (simp; done)) ?_)) ?_
        rw [hfs]
        exact (by repeat (first | exact MSub.nil | refine MSub.keep (by first | rfl | assumption) ?_ | refine MSub.drop ?_ | exact MSub.refl _))
  · have hie : i = N := by omega
    subst hie
    have hNn : c.n.toNat = i := by omega
    have hfl := frL_le c.ts c.ps i
    have hcl := clL_le c.ts c.ps i
    have hsl := spL_len c.sp
    have hlim := hok.lim
    rw [hNn] at hyes
    have hmany := ofE_many (c := c) (hdef ())
    have hfew := ofE_ok (c := c) (hdef ()) h2
    rw [hNn] at hmany hfew
    repeat (first | refine l_val rfl rfl (by first | exact pureEval_ok rfl | exact v_load rfl (by repeat (first | exact List.Mem.head _ | apply List.Mem.tail)) rfl (by rfl)  | fail) ?_ | refine l_nil ?_ | refine c_region ?_ | refine c_seq ?_ | refine x_then ?_ | refine c_dec_f rfl (by first | omega  | fail) ?_ | refine c_exit ?_ | refine x_then_exit ?_ | refine x_block_same ?_  | fail)
    refine r_appendZ (f := lkE) (e := 55) (sz := 4) (xs := frL c.ts c.ps i) (ys := spL c.sp) (m := c.sp.length) rfl rfl rfl rfl rfl rfl hsl.symm (by rw [← hsl]; exact newsG_at hC) (List.perm_append_comm_assoc [_, _, _] _ _) hgf rowsE_len (rowsE_one _) rfl (by omega) (by unfold maxLen; omega) (fun b' c' r' hg' => ?_)
    refine l_perm (List.perm_append_comm_assoc _ [_, _, _] _) ?_
    obtain ⟨A', k', hA'⟩ := gSl_len (l := frL c.ts c.ps i ++ spL c.sp) (b := b') (cap := c')
    obtain ⟨B', k2, hB'⟩ := gSl_len (l := clL c.ts c.ps i) (b := bc) (cap := cc)
    rw [hA', hB']
    simp only [List.cons_append, List.nil_append]
    by_cases hm : 256 < (frL c.ts c.ps i ++ spL c.sp).length
    · have hE := hmany hm
      repeat (first | refine l_val rfl rfl (by first | exact pureEval_ok rfl | exact v_load rfl (by repeat (first | exact List.Mem.head _ | apply List.Mem.tail)) rfl (by rfl) | exact v_build rfl rfl (by rfl)  | fail) ?_ | refine l_nil ?_ | refine c_region ?_ | refine c_seq ?_ | refine x_then ?_ | refine r_store rfl rfl rfl rfl rfl rfl rfl (by repeat (first | exact Upd.head | apply Upd.tail)) (by rfl) ?_ | refine c_dec_t rfl (by first | omega  | fail) ?_ | refine c_ret ?_ | refine x_then_ret ?_  | fail)
      exact x_ret rfl rfl (by repeat (first | exact Res.nil | (apply Res.tmp; rfl) | (apply Res.cell; rfl; exact (by repeat (first | exact List.Mem.head _ | apply List.Mem.tail)); rfl; rfl))) rfl (fun W hW => of_zero (by rw [hE]; decide) hE hW.below)
    · have hE := hfew hm
      obtain ⟨y1, y2, y3⟩ := hyes hE
      repeat (first | refine l_val rfl rfl (by first | exact pureEval_ok rfl | exact v_load rfl (by repeat (first | exact List.Mem.head _ | apply List.Mem.tail)) rfl (by rfl)  | fail) ?_ | refine l_nil ?_ | refine c_region ?_ | refine c_seq ?_ | refine x_then ?_ | refine r_store rfl rfl rfl rfl rfl rfl rfl (by repeat (first | exact Upd.head | apply Upd.tail)) (by rfl) ?_ | refine c_dec_f rfl (by first | omega  | fail) ?_ | refine c_skip ?_ | refine c_ret ?_  | fail)
      refine x_ret rfl rfl (by repeat (first | exact Res.nil | (apply Res.tmp; rfl) | (apply Res.cell; rfl; exact (by repeat (first | exact List.Mem.head _ | apply List.Mem.tail)); rfl; rfl))) rfl (fun W hW => ?_)
      obtain ⟨A2, c2, e2, f2⟩ := gfr (l := frL c.ts c.ps i ++ spL c.sp) (b := b') (cap := c') (rest := r') hW (fun p hp => by repeat (first | exact List.mem_append_left _ hp | apply List.Mem.tail))
      obtain ⟨A3, c3, e3, f3⟩ := gfr (l := clL c.ts c.ps i) (b := bc) (cap := cc) (rest := rc) hW (fun p hp => by repeat (first | exact List.mem_append_right _ hp | apply List.Mem.tail))
      rw [hA'] at e2
      rw [hB'] at e3
      injection e2 with e2
      injection e3 with e3
      rw [← e2] at f2
      rw [← e3] at f3
      exact ⟨A', B', k', k2, by rw [y1, y2, y3, hE], by rw [y2]; exact f2, by rw [y3]; exact f3, hW.below⟩
end R23
end Go.Proofs
