/- Clocks: each tick belongs to one bar or pause; walked. -/
import Derived.Test.YtjagcijgfmclhaaTpY
import Derived.Test.YtjagcijgfmclhaaTpV
set_option linter.unusedSectionVars false
set_option linter.unusedVariables false
set_option linter.unusedSimpArgs false
namespace Go.Proofs
open Go.RowKit Go.Kin Go.Kin.Tm
namespace R13
theorem pa_snoc_ne {len : Nat → Int} {p : Ps} {k : Int} (h : p.bar ≠ k) : ∀ (qs : List Ps) (o : Nat), pa len (qs ++ [p]) o k = pa len qs o k
  | [], o => by show (if p.bar = k then len o else 0) = 0; rw [if_neg h]
  | q :: qs, o => by
    show (if q.bar = k then len o else pa len (qs ++ [p]) (o + 1) k) = if q.bar = k then len o else pa len qs (o + 1) k
    rw [pa_snoc_ne h qs (o + 1)]
theorem pa_take {len : Nat → Int} {ps : List Ps} {n k : Int} {i : Nat} {p : Ps} (ha : ascP (-1) n ps = true) (hp : ps[i]? = some p) : pa len (ps.take (i + 1)) 0 k = if p.bar = k then len i else pa len (ps.take i) 0 k := by
  have ht : ps.take (i + 1) = ps.take i ++ [p] := by rw [List.take_add_one, hp]; rfl
  by_cases h : p.bar = k
  · rw [if_pos h]
    have hi : (ps.take (i + 1))[i]? = some p := by rw [List.getElem?_take_of_lt (by omega), hp]
    rw [pa_some hi h (fun j q hj hq => ?_), Nat.zero_add]
    have hq' : ps[j]? = some q := by rw [List.getElem?_take_of_lt (by omega)] at hq; exact hq
    have := ascP_lt ha hj hq' hp
    omega
  · rw [if_neg h, ht, pa_snoc_ne h]
theorem lcA_err {c : Clk} {l : List Int} {t : Int} (h0 : lgE c l = 0) (h : t < 0 ∨ Bt (tk c.ts) (pa (lenF l) c.ps 0) c.n.toNat ≤ t) : lcA c l t = ((0, 0, false), 1) := by
  obtain ⟨hok, h1⟩ := lgE_0 h0
  exact lcA_none h0 (locA_out (ok_fine hok h1) h)
theorem lgE_k' {c : Clk} {l : List Int} (h : lgE c l = 0) : c.k = 0 := by
  by_cases h0 : c.k = 0
  · exact h0
  · rw [lgE_no h0] at h; exact h
theorem last_pause {n : Int} {ts : List Tp} {ps : List Ps} {sp : List Sp} {len : Nat → Int} (h : Ok n ts ps sp) (k : Nat) (hk : k + 1 = n.toNat) : pa len ps 0 k = 0 := pa_none fun j p hp => by
  have := ascP_get h.ascP hp
  omega

set_option maxRecDepth 100000 in
set_option maxHeartbeats 40000000 in
theorem tempoTicks_calls (c : Clk) (L : Option Addr) (cap : Nat) (l : List Int) (t : Int) (w : World) (hA : c.In w) (hL : Kin.At w L 1 (l.map inE)) (ht : t ≤ 9223372036854775807) :
    Calls Try.prog 7 ⟨[.agg ⟨c.v⟩, .slice L l.length cap, .int .i64 t]⟩ w fun e w' => e = .returned (.bool true) ∧ Below w.heap.size w w' := by
  refine fun_enter Try.func7 rfl Try.ntmps7 rfl rfl (satW_nil w) ?_
  repeat (first | refine l_val rfl rfl (by first | exact pureEval_ok rfl ) ?_ | refine l_nil ?_ | refine c_region ?_ | refine c_seq ?_ | refine x_then ?_ | refine r_box rfl rfl rfl rfl (fun _ => ?_) )
  rename_i b3
  refine r_call rfl rfl rfl (fun W hW => sane_calls W) ?_
  repeat (first | refine l_val rfl rfl (by first | exact pureEval_ok rfl | exact v_load rfl (by repeat (first | exact List.Mem.head _ | apply List.Mem.tail)) rfl (by rfl) ) ?_ | refine l_nil ?_ | refine c_region ?_ | refine c_seq ?_ | refine x_then ?_ | refine c_false rfl ?_ | refine c_skip ?_ )
  refine r_call rfl rfl rfl (fun W hW => Few_calls c W) ?_
  cases hf : fewB c with
  | false =>
    repeat (first | refine l_val rfl rfl (by first | exact pureEval_ok rfl ) ?_ | refine l_nil ?_ | refine c_region ?_ | refine c_seq ?_ | refine x_then ?_ | refine l_skip rfl rfl ?_ | refine c_true rfl ?_ | refine c_ret ?_ | refine x_then_ret ?_ )
    exact x_ret rfl rfl (by repeat (first | exact Res.nil | (apply Res.tmp; rfl) | (apply Res.cell; rfl; exact (by repeat (first | exact List.Mem.head _ | apply List.Mem.tail)); rfl; rfl))) rfl (fun W hW => ⟨by first | rfl | (simp; done) | (simp_all; done), hW.below⟩)
  | true =>
    by_cases h100 : (l.length : Int) ≤ 100
    rotate_left
    · repeat (first | refine l_val rfl rfl (by first | exact pureEval_ok rfl ) ?_ | refine l_nil ?_ | refine c_region ?_ | refine c_seq ?_ | refine x_then ?_ | refine l_skip rfl rfl ?_ | refine c_true rfl ?_ | refine c_ret ?_ | refine x_then_ret ?_ | refine l_dec_t rfl rfl rfl rfl rfl (by first | omega ) ?_ )
      exact x_ret rfl rfl (by repeat (first | exact Res.nil | (apply Res.tmp; rfl) | (apply Res.cell; rfl; exact (by repeat (first | exact List.Mem.head _ | apply List.Mem.tail)); rfl; rfl))) rfl (fun W hW => ⟨by first | rfl | (simp; done) | (simp_all; done), hW.below⟩)
    by_cases h200 : c.n ≤ 200
    rotate_left
    · repeat (first | refine l_val rfl rfl (by first | exact pureEval_ok rfl | exact v_load rfl (by repeat (first | exact List.Mem.head _ | apply List.Mem.tail)) rfl (by rfl) ) ?_ | refine l_nil ?_ | refine c_region ?_ | refine c_seq ?_ | refine x_then ?_ | refine c_dec_t rfl (by first | omega ) ?_ | refine c_ret ?_ | refine x_then_ret ?_ | refine l_dec_f rfl rfl rfl rfl rfl (by first | omega ) ?_ )
      exact x_ret rfl rfl (by repeat (first | exact Res.nil | (apply Res.tmp; rfl) | (apply Res.cell; rfl; exact (by repeat (first | exact List.Mem.head _ | apply List.Mem.tail)); rfl; rfl))) rfl (fun W hW => ⟨by first | rfl | (simp; done) | (simp_all; done), hW.below⟩)
    have hl := few_sm hf
    have hT := fun W hA hL => Length_calls c L cap l W hl (by omega) hA hL
    have hC := fun t W hA hL ht => Locate_calls c L cap l t W hl (by omega) hA hL ht
    have hK := fun bar W hA => Ticks_calls c bar W hl hA
    have hlp := hl.b
    clear hf hl
    by_cases h0 : lgE c l = 0
    rotate_left
    · have hC := fun W hA hL => hC t W hA hL ht
      rw [lnA_no h0] at hT
      rw [lcA_no h0] at hC
      simp only [v2] at hT
      simp only [v4] at hC
      clear hK
      generalize lgE c l = E at *
      repeat (first | refine l_val rfl rfl (by first | exact pureEval_ok rfl | exact v_load rfl (by repeat (first | exact List.Mem.head _ | apply List.Mem.tail)) rfl (by rfl) ) ?_ | refine l_nil ?_ | refine c_region ?_ | refine c_seq ?_ | refine x_then ?_ | refine c_dec_f rfl (by first | omega ) ?_ | refine c_skip ?_ | refine l_dec_f rfl rfl rfl rfl rfl (by first | omega ) ?_ )
      refine r_call rfl rfl rfl (fun W hW => hT W (hA.sat hW) (hL.sat hW)) ?_
      repeat (first | refine l_val rfl rfl (by first | exact pureEval_ok rfl | exact v_load rfl (by repeat (first | exact List.Mem.head _ | apply List.Mem.tail)) rfl (by rfl) ) ?_ | refine l_nil ?_ | refine c_region ?_ | refine c_seq ?_ | refine x_then ?_ | refine l_skip rfl rfl ?_ | refine c_true rfl ?_ | refine l_dec_t rfl rfl rfl rfl rfl (by first | omega ) ?_ )
      refine r_call rfl rfl rfl (fun W hW => hC W (hA.sat hW) (hL.sat hW)) ?_
      repeat (first | refine l_val rfl rfl (by first | exact pureEval_ok rfl ) ?_ | refine l_nil ?_ | refine c_region ?_ | refine c_seq ?_ | refine x_then ?_ | refine c_ret ?_ | refine x_then_ret ?_ | refine l_dec_t rfl rfl rfl rfl rfl (by first | omega ) ?_ | refine l_dec_f rfl rfl rfl rfl rfl (by first | omega ) ?_ )
      exact x_ret rfl rfl (by repeat (first | exact Res.nil | (apply Res.tmp; rfl) | (apply Res.cell; rfl; exact (by repeat (first | exact List.Mem.head _ | apply List.Mem.tail)); rfl; rfl))) rfl (fun W hW => ⟨by first | rfl | (simp; done) | (simp_all; done), hW.below⟩)
    have hk0 := lgE_k' h0
    obtain ⟨hok, h1⟩ := lgE_0 h0
    have hlen := (lensB_iff.1 h1).1
    have hfine := ok_fine hok h1
    rw [lnA_yes h0] at hT
    simp only [v2] at hT
    by_cases hr : 0 ≤ t ∧ t < Bt (tk c.ts) (pa (lenF l) c.ps 0) c.n.toNat
    rotate_left
    · have hC := fun W hA hL => hC t W hA hL ht
      rw [lcA_err h0 (by omega)] at hC
      simp only [v4] at hC
      generalize Bt (tk c.ts) (pa (lenF l) c.ps 0) c.n.toNat = N at *
      clear hK hok h1 h0 hfine
      by_cases hneg : t < 0
      · clear hr
        repeat (first | refine l_val rfl rfl (by first | exact pureEval_ok rfl | exact v_load rfl (by repeat (first | exact List.Mem.head _ | apply List.Mem.tail)) rfl (by rfl) ) ?_ | refine l_nil ?_ | refine c_region ?_ | refine c_seq ?_ | refine x_then ?_ | refine c_dec_f rfl (by first | omega | exact fun h => h rfl ) ?_ | refine c_skip ?_ | refine l_dec_f rfl rfl rfl rfl rfl (by first | omega | exact fun h => h rfl ) ?_ )
        refine r_call rfl rfl rfl (fun W hW => hT W (hA.sat hW) (hL.sat hW)) ?_
        repeat (first | refine l_val rfl rfl (by first | exact pureEval_ok rfl | exact v_load rfl (by repeat (first | exact List.Mem.head _ | apply List.Mem.tail)) rfl (by rfl) ) ?_ | refine l_nil ?_ | refine c_region ?_ | refine c_seq ?_ | refine x_then ?_ | refine l_skip rfl rfl ?_ | refine c_true rfl ?_ | refine l_dec_t rfl rfl rfl rfl rfl (by first | omega ) ?_ )
        refine r_call rfl rfl rfl (fun W hW => hC W (hA.sat hW) (hL.sat hW)) ?_
        repeat (first | refine l_val rfl rfl (by first | exact pureEval_ok rfl ) ?_ | refine l_nil ?_ | refine c_region ?_ | refine c_seq ?_ | refine x_then ?_ | refine l_skip rfl rfl ?_ | refine c_ret ?_ | refine x_then_ret ?_ )
        exact x_ret rfl rfl (by repeat (first | exact Res.nil | (apply Res.tmp; rfl) | (apply Res.cell; rfl; exact (by repeat (first | exact List.Mem.head _ | apply List.Mem.tail)); rfl; rfl))) rfl (fun W hW => ⟨by first | rfl | (simp; done) | (simp_all; done), hW.below⟩)
      · have hge : N ≤ t := by omega
        clear hr
        repeat (first | refine l_val rfl rfl (by first | exact pureEval_ok rfl | exact v_load rfl (by repeat (first | exact List.Mem.head _ | apply List.Mem.tail)) rfl (by rfl) ) ?_ | refine l_nil ?_ | refine c_region ?_ | refine c_seq ?_ | refine x_then ?_ | refine c_dec_f rfl (by first | omega ) ?_ | refine c_skip ?_ | refine l_dec_f rfl rfl rfl rfl rfl (by first | omega ) ?_ )
        refine r_call rfl rfl rfl (fun W hW => hT W (hA.sat hW) (hL.sat hW)) ?_
        repeat (first | refine l_val rfl rfl (by first | exact pureEval_ok rfl | exact v_load rfl (by repeat (first | exact List.Mem.head _ | apply List.Mem.tail)) rfl (by rfl) ) ?_ | refine l_nil ?_ | refine c_region ?_ | refine c_seq ?_ | refine x_then ?_ | refine c_dec_t rfl (by first | omega ) ?_ | refine l_dec_f rfl rfl rfl rfl rfl (by first | omega ) ?_ )
        refine r_call rfl rfl rfl (fun W hW => hC W (hA.sat hW) (hL.sat hW)) ?_
        repeat (first | refine l_val rfl rfl (by first | exact pureEval_ok rfl ) ?_ | refine l_nil ?_ | refine c_region ?_ | refine c_seq ?_ | refine x_then ?_ | refine l_skip rfl rfl ?_ | refine c_ret ?_ | refine x_then_ret ?_ )
        exact x_ret rfl rfl (by repeat (first | exact Res.nil | (apply Res.tmp; rfl) | (apply Res.cell; rfl; exact (by repeat (first | exact List.Mem.head _ | apply List.Mem.tail)); rfl; rfl))) rfl (fun W hW => ⟨by first | rfl | (simp; done) | (simp_all; done), hW.below⟩)
    obtain ⟨r1, r2⟩ := hr
    obtain ⟨j, j1, j2, j3⟩ := find_bar r1 r2
    have hn1 := hok.n1
    have hn2 := hok.n2
    have hC1 := fun W hA hL => hC t W hA hL ht
    rw [lcA_some h0 (locA_in hfine r1 j1 j2 j3)] at hC1
    have hK := hK j
    rw [tkA_in hk0 ⟨by omega, by omega⟩] at hK
    simp only [v2] at hK
    have hasc := hok.ascP
    have hNb := Bt_bd (ok_both hok h1) c.n.toNat (Nat.le_refl _)
    have hlk : ∀ i, i < c.ps.length → ∃ x, l[i]? = some x ∧ lenF l i = x := fun i hi => by
      obtain ⟨x, hx⟩ : ∃ x, l[i]? = some x := ⟨_, List.getElem?_eq_getElem (by omega)⟩
      exact ⟨x, hx, lenF_of hx⟩
    have hin := ans_in j2 j3
    have hlast : Unit → t + 1 = Bt (tk c.ts) (pa (lenF l) c.ps 0) c.n.toNat → (j : Int) = c.n - 1 ∧ (ans (tk c.ts) (pa (lenF l) c.ps 0) j t).2.2 = true ∧ (ans (tk c.ts) (pa (lenF l) c.ps 0) j t).2.1 = long (tk c.ts) (pa (lenF l) c.ps 0) j t - 1 := fun _ he => by
      obtain ⟨a1, a2, a3⟩ := last_tick hfine (last_pause hok) j1 j2 j3 he
      exact ⟨by omega, a2, a3⟩
    have hC2 := fun W hA hL => hC (t + 1) W hA hL (by omega)
    have hC2e : Unit → t + 1 = Bt (tk c.ts) (pa (lenF l) c.ps 0) c.n.toNat → lcA c l (t + 1) = ((0, 0, false), 1) := fun _ he => lcA_err h0 (by omega)
    have hC2n : Unit → t + 1 ≠ Bt (tk c.ts) (pa (lenF l) c.ps 0) c.n.toNat → lcA c l (t + 1) = (if (ans (tk c.ts) (pa (lenF l) c.ps 0) j t).2.1 + 1 < long (tk c.ts) (pa (lenF l) c.ps 0) j t then ((j : Int), (ans (tk c.ts) (pa (lenF l) c.ps 0) j t).2.1 + 1, (ans (tk c.ts) (pa (lenF l) c.ps 0) j t).2.2) else if (ans (tk c.ts) (pa (lenF l) c.ps 0) j t).2.2 = true ∧ 0 < pa (lenF l) c.ps 0 j then ((j : Int), 0, false) else ((j : Int) + 1, 0, true), 0) :=
      fun _ he => lcA_some h0 (next_tick hfine r1 j1 j2 j3 he)
    have hshape : Unit → (t < Bt (tk c.ts) (pa (lenF l) c.ps 0) j + tk c.ts j ∧ (ans (tk c.ts) (pa (lenF l) c.ps 0) j t).2.2 = true ∧ long (tk c.ts) (pa (lenF l) c.ps 0) j t = tk c.ts j) ∨ (¬ t < Bt (tk c.ts) (pa (lenF l) c.ps 0) j + tk c.ts j ∧ (ans (tk c.ts) (pa (lenF l) c.ps 0) j t).2.2 = false ∧ long (tk c.ts) (pa (lenF l) c.ps 0) j t = pa (lenF l) c.ps 0 j) := fun _ => by
      unfold ans long
      by_cases hc : t < Bt (tk c.ts) (pa (lenF l) c.ps 0) j + tk c.ts j
      · left; rw [if_pos hc, if_pos hc]; exact ⟨hc, rfl, rfl⟩
      · right; rw [if_neg hc, if_neg hc]; exact ⟨hc, rfl, rfl⟩
    have hbar := ans_bar (tk := tk c.ts) (pa := pa (lenF l) c.ps 0) j t
    have hpos := (ok_both hok h1 j j1)
    have hps0 : pa (lenF l) (c.ps.take 0) 0 j = 0 := rfl
    have hpsn : pa (lenF l) (c.ps.take c.ps.length) 0 j = pa (lenF l) c.ps 0 j := by rw [List.take_length]
    have hstep : Unit → ∀ (i : Nat) (p : Ps), c.ps[i]? = some p → pa (lenF l) (c.ps.take (i + 1)) 0 j = if p.bar = j then lenF l i else pa (lenF l) (c.ps.take i) 0 j := fun _ i p hp => pa_take hasc hp
    generalize lcA c l (t + 1) = q at *
    generalize ans (tk c.ts) (pa (lenF l) c.ps 0) j t = a at *
    generalize long (tk c.ts) (pa (lenF l) c.ps 0) j t = lg at *
    generalize Bt (tk c.ts) (pa (lenF l) c.ps 0) c.n.toNat = N at *
    generalize Bt (tk c.ts) (pa (lenF l) c.ps 0) j + tk c.ts j = mid at *
    generalize tk c.ts j = T at *
    generalize pa (lenF l) c.ps 0 j = X at *
    obtain ⟨a1, a2, a3⟩ := a
    simp only at hbar hin hlast hshape hC2n
    subst hbar
    simp only [v4] at hC1 hC2
    clear hfine hok h1 h0 hC hasc hk0 j2 j3
    obtain ⟨n, ts, ps, sp, A, B, C, ca, cb, cc⟩ := c
    have hB := hA.b
    dsimp only [Clk.v] at *
    repeat (first | refine l_val rfl rfl (by first | exact pureEval_ok rfl | exact v_load rfl (by repeat (first | exact List.Mem.head _ | apply List.Mem.tail)) rfl (by rfl) ) ?_ | refine l_nil ?_ | refine c_region ?_ | refine c_seq ?_ | refine x_then ?_ | refine c_dec_f rfl (by first | omega | exact fun h => h rfl ) ?_ | refine c_skip ?_ | refine l_dec_f rfl rfl rfl rfl rfl (by first | omega | exact fun h => h rfl ) ?_ )
    refine r_call rfl rfl rfl (fun W hW => hT W (hA.sat hW) (hL.sat hW)) ?_
    repeat (first | refine l_val rfl rfl (by first | exact pureEval_ok rfl | exact v_load rfl (by repeat (first | exact List.Mem.head _ | apply List.Mem.tail)) rfl (by rfl) ) ?_ | refine l_nil ?_ | refine c_region ?_ | refine c_seq ?_ | refine x_then ?_ | refine c_dec_f rfl (by first | omega | exact fun h => h rfl ) ?_ | refine c_skip ?_ | refine l_dec_f rfl rfl rfl rfl rfl (by first | omega | exact fun h => h rfl ) ?_ )
    refine r_call rfl rfl rfl (fun W hW => hC1 W (hA.sat hW) (hL.sat hW)) ?_
    repeat (first | refine l_val rfl rfl (by first | exact pureEval_ok rfl | exact v_load rfl (by repeat (first | exact List.Mem.head _ | apply List.Mem.tail)) rfl (by rfl) ) ?_ | refine l_nil ?_ | refine c_region ?_ | refine c_seq ?_ | refine x_then ?_ )
    refine r_call rfl rfl rfl (fun W hW => hK W (hA.sat hW)) ?_
    repeat ((fail_if_success refine c_probe (id := 15) ?_); (fail_if_success refine c_probe1 (id := 15) ?_); first | refine l_val rfl rfl (by first | exact pureEval_ok rfl | exact v_load rfl (by repeat (first | exact List.Mem.head _ | apply List.Mem.tail)) rfl (by rfl) ) ?_ | refine l_nil ?_ | refine c_region ?_ | refine c_seq ?_ | refine x_then ?_ | refine c_false rfl ?_ | refine c_block ?_ | refine c_skip ?_ )
    clear hT hC1 hK
    refine c_loop (ι := Nat) (fun i => i ≤ ps.length) (fun i => [(1, .slice L l.length cap), (2, .int .i64 t), (3, .pointer (some ⟨b3, 0, none⟩)), (6, .bool false), (7, .int .i64 N), (13, .int .i64 j), (14, .int .i64 a2), (15, .bool a3), (17, .int .i64 T), (19, .int .i64 (pa (lenF l) (ps.take i) 0 j)), (100, .int .i64 ps.length), (101, .int .i64 i)])
      (fun _ => [(b3, .cells ⟨[.int .i64 n, .slice A ts.length ca, .slice B ps.length cb, .slice C sp.length cc]⟩ 26 (0, 0))]) (fun i => ps.length - i) 0 (by omega) (by repeat (first | exact EnvSub.nil | refine EnvSub.cons rfl (by first | rfl | (congr 1; done) | (exact congrArg (Value.int _) (by omega)) | (simp; done)) ?_)) (by repeat (first | exact MSub.nil | refine MSub.keep (by first | rfl | assumption) ?_ | refine MSub.drop ?_ | exact MSub.refl _)) ?_
    intro i hi
    by_cases hlt : i < ps.length
    · clear hC2 hC2e hC2n hshape hlast hin hpsn hps0
      obtain ⟨p, hp⟩ : ∃ p, ps[i]? = some p := ⟨_, List.getElem?_eq_getElem hlt⟩
      obtain ⟨x, hx, hx2⟩ := hlk i hlt
      obtain ⟨b', o', rfl, hc⟩ := ext_at hB hp
      obtain ⟨b4, o4, rfl, hc4⟩ := ext_at hL hx
      have he := ext_of hc
      have he3 := ext_of hc4
      rw [Nat.mul_one] at he3
      unfold psE at he
      have hs := hstep () i p hp
      clear hstep hlk
      obtain ⟨Y, hY⟩ : ∃ Y, pa (lenF l) (ps.take i) 0 j = Y := ⟨_, rfl⟩
      rw [hY] at hs ⊢
      rw [hx2] at hs
      by_cases hpb : p.bar = j
      · rw [if_pos hpb] at hs
        repeat (first | refine l_val rfl rfl (by first | exact v_add rfl rfl (by omega) (by omega) | exact pureEval_ok rfl | exact v_load rfl (by repeat (first | exact List.Mem.head _ | apply List.Mem.tail)) rfl (by rfl) | exact v_load_ext0 rfl (by assumption) rfl (by rfl) | exact v_index rfl rfl rfl rfl (by omega) (by omega) (by with_reducible first | exact idx2 _ _  | exact idx4 _ _ _  ) ) ?_ | refine l_nil ?_ | refine c_region ?_ | refine c_seq ?_ | refine x_then ?_ | refine c_dec_t rfl (by first | omega ) ?_ | refine c_block ?_ | refine c_skip ?_ | refine x_block ?_ | refine l_dec_t rfl rfl rfl rfl rfl (by first | omega ) ?_ )
        refine x_back (i + 1) hlt (by omega) ?_ (by repeat (first | exact MSub.nil | refine MSub.keep (by first | rfl | assumption) ?_ | refine MSub.drop ?_ | exact MSub.refl _))
        rw [hs]
        exact (by repeat (first | exact EnvSub.nil | refine EnvSub.cons rfl (by first | rfl | (congr 1; done) | (exact congrArg (Value.int _) (by omega)) | (simp; done)) ?_))
      · rw [if_neg hpb] at hs
        repeat (first | refine l_val rfl rfl (by first | exact v_add rfl rfl (by omega) (by omega) | exact pureEval_ok rfl | exact v_load rfl (by repeat (first | exact List.Mem.head _ | apply List.Mem.tail)) rfl (by rfl) | exact v_load_ext0 rfl (by assumption) rfl (by rfl) | exact v_index rfl rfl rfl rfl (by omega) (by omega) (by with_reducible first | exact idx4 _ _ _  ) ) ?_ | refine l_nil ?_ | refine c_region ?_ | refine c_seq ?_ | refine x_then ?_ | refine c_dec_t rfl (by first | omega ) ?_ | refine c_dec_f rfl (by first | omega ) ?_ | refine c_block ?_ | refine c_skip ?_ | refine x_block ?_ | refine l_dec_t rfl rfl rfl rfl rfl (by first | omega ) ?_ )
        refine x_back (i + 1) hlt (by omega) ?_ (by repeat (first | exact MSub.nil | refine MSub.keep (by first | rfl | assumption) ?_ | refine MSub.drop ?_ | exact MSub.refl _))
        rw [hs]
        exact (by repeat (first | exact EnvSub.nil | refine EnvSub.cons rfl (by first | rfl | (congr 1; done) | (exact congrArg (Value.int _) (by omega)) | (simp; done)) ?_))
    have hi2 : i = ps.length := by omega
    subst hi2
    rw [hpsn]
    clear hpsn hps0 hstep hlk hB
    obtain ⟨hin1, hin2⟩ := hin
    obtain ⟨q1, q2, q3⟩ := hpos
    have hsh := hshape
    clear hshape
    have hj0 : (j : Int) ≤ n - 1 := by omega
    by_cases hlastT : t + 1 = N
    · have hq := hC2e () hlastT
      obtain ⟨l1, l2, l3⟩ := hlast () hlastT
      subst hq l2
      have hsh := hsh ()
      obtain ⟨s1, _, s3⟩ : t < mid ∧ true = true ∧ lg = T := by
        rcases hsh with h | h
        · exact h
        · exact absurd h.2.1 (by decide)
      subst s3
      clear hsh hC2n hC2e hlast
      simp only at hC2
      repeat (first | refine l_val rfl rfl (by first | exact v_add rfl rfl (by omega) (by omega) | exact pureEval_ok rfl | exact v_load rfl (by repeat (first | exact List.Mem.head _ | apply List.Mem.tail)) rfl (by rfl) ) ?_ | refine l_nil ?_ | refine c_region ?_ | refine c_seq ?_ | refine x_then ?_ | refine c_false rfl ?_ | refine c_dec_f rfl (by first | omega ) ?_ | refine c_skip ?_ | refine c_exit ?_ | refine x_then_exit ?_ | refine x_block_same ?_ | refine l_dec_f rfl rfl rfl rfl rfl (by first | omega ) ?_ )
      refine r_call rfl rfl rfl (fun W hW => hC2 W (hA.sat hW) (hL.sat hW)) ?_
      repeat (first | refine l_val rfl rfl (by first | exact v_add rfl rfl (by omega) (by omega) | exact v_sub rfl rfl (by omega) (by omega) | exact pureEval_ok rfl | exact v_load rfl (by repeat (first | exact List.Mem.head _ | apply List.Mem.tail)) rfl (by rfl) ) ?_ | refine l_nil ?_ | refine c_region ?_ | refine c_seq ?_ | refine x_then ?_ | refine c_dec_t rfl (by first | omega ) ?_ | refine c_ret ?_ | refine x_then_ret ?_ | refine l_dec_t rfl rfl rfl rfl rfl (by first | omega ) ?_ )
      exact x_ret rfl rfl (by repeat (first | exact Res.nil | (apply Res.tmp; rfl) | (apply Res.cell; rfl; exact (by repeat (first | exact List.Mem.head _ | apply List.Mem.tail)); rfl; rfl))) rfl (fun W hW => ⟨by first | rfl | (simp; done) | (simp_all; done), hW.below⟩)
    have hq := hC2n () hlastT
    clear hC2n hC2e hlast
    subst hq
    by_cases hmore : a2 + 1 < lg
    · rw [if_pos hmore] at hC2
      simp only at hC2
      rcases hsh () with ⟨s1, s2, s3⟩ | ⟨s1, s2, s3⟩
      · subst s2 s3
        clear hsh
        repeat (first | refine l_val rfl rfl (by first | exact v_add rfl rfl (by omega) (by omega) | exact pureEval_ok rfl | exact v_load rfl (by repeat (first | exact List.Mem.head _ | apply List.Mem.tail)) rfl (by rfl) ) ?_ | refine l_nil ?_ | refine c_region ?_ | refine c_seq ?_ | refine x_then ?_ | refine c_false rfl ?_ | refine c_dec_f rfl (by first | omega ) ?_ | refine c_skip ?_ | refine c_exit ?_ | refine x_then_exit ?_ | refine x_block_same ?_ | refine l_dec_f rfl rfl rfl rfl rfl (by first | omega ) ?_ )
        refine r_call rfl rfl rfl (fun W hW => hC2 W (hA.sat hW) (hL.sat hW)) ?_
        repeat (first | refine l_val rfl rfl (by first | exact v_add rfl rfl (by omega) (by omega) | exact pureEval_ok rfl ) ?_ | refine l_nil ?_ | refine c_region ?_ | refine c_seq ?_ | refine x_then ?_ | refine c_false rfl ?_ | refine c_dec_t rfl (by first | omega ) ?_ | refine c_dec_f rfl (by first | omega ) ?_ | refine c_skip ?_ | refine c_ret ?_ | refine x_then_ret ?_ | refine l_dec_t rfl rfl rfl rfl rfl (by first | omega ) ?_ )
        exact x_ret rfl rfl (by repeat (first | exact Res.nil | (apply Res.tmp; rfl) | (apply Res.cell; rfl; exact (by repeat (first | exact List.Mem.head _ | apply List.Mem.tail)); rfl; rfl))) rfl (fun W hW => ⟨by first | rfl | (simp; done) | (simp_all; done), hW.below⟩)
      · subst s2 s3
        clear hsh
        repeat (first | refine l_val rfl rfl (by first | exact v_add rfl rfl (by omega) (by omega) | exact pureEval_ok rfl | exact v_load rfl (by repeat (first | exact List.Mem.head _ | apply List.Mem.tail)) rfl (by rfl) ) ?_ | refine l_nil ?_ | refine c_region ?_ | refine c_seq ?_ | refine x_then ?_ | refine c_true rfl ?_ | refine c_dec_f rfl (by first | omega ) ?_ | refine c_skip ?_ | refine c_exit ?_ | refine x_then_exit ?_ | refine x_block_same ?_ | refine l_dec_f rfl rfl rfl rfl rfl (by first | omega ) ?_ )
        refine r_call rfl rfl rfl (fun W hW => hC2 W (hA.sat hW) (hL.sat hW)) ?_
        repeat (first | refine l_val rfl rfl (by first | exact v_add rfl rfl (by omega) (by omega) | exact pureEval_ok rfl ) ?_ | refine l_nil ?_ | refine c_region ?_ | refine c_seq ?_ | refine x_then ?_ | refine c_false rfl ?_ | refine c_dec_t rfl (by first | omega ) ?_ | refine c_dec_f rfl (by first | omega ) ?_ | refine c_skip ?_ | refine c_ret ?_ | refine x_then_ret ?_ | refine l_dec_t rfl rfl rfl rfl rfl (by first | omega ) ?_ )
        exact x_ret rfl rfl (by repeat (first | exact Res.nil | (apply Res.tmp; rfl) | (apply Res.cell; rfl; exact (by repeat (first | exact List.Mem.head _ | apply List.Mem.tail)); rfl; rfl))) rfl (fun W hW => ⟨by first | rfl | (simp; done) | (simp_all; done), hW.below⟩)
    · rw [if_neg hmore] at hC2
      rcases hsh () with ⟨s1, s2, s3⟩ | ⟨s1, s2, s3⟩
      · subst s2 s3
        clear hsh
        by_cases hX : 0 < X
        · rw [if_pos ⟨rfl, hX⟩] at hC2
          simp only at hC2
          repeat (first | refine l_val rfl rfl (by first | exact v_add rfl rfl (by omega) (by omega) | exact pureEval_ok rfl | exact v_load rfl (by repeat (first | exact List.Mem.head _ | apply List.Mem.tail)) rfl (by rfl) ) ?_ | refine l_nil ?_ | refine c_region ?_ | refine c_seq ?_ | refine x_then ?_ | refine c_false rfl ?_ | refine c_dec_f rfl (by first | omega ) ?_ | refine c_skip ?_ | refine c_exit ?_ | refine x_then_exit ?_ | refine x_block_same ?_ | refine l_dec_f rfl rfl rfl rfl rfl (by first | omega ) ?_ )
          refine r_call rfl rfl rfl (fun W hW => hC2 W (hA.sat hW) (hL.sat hW)) ?_
          repeat (first | refine l_val rfl rfl (by first | exact v_add rfl rfl (by omega) (by omega) | exact pureEval_ok rfl ) ?_ | refine l_nil ?_ | refine c_region ?_ | refine c_seq ?_ | refine x_then ?_ | refine c_false rfl ?_ | refine c_dec_t rfl (by first | omega ) ?_ | refine c_dec_f rfl (by first | omega ) ?_ | refine c_skip ?_ | refine c_ret ?_ | refine x_then_ret ?_ | refine l_dec_t rfl rfl rfl rfl rfl (by first | omega ) ?_ )
          exact x_ret rfl rfl (by repeat (first | exact Res.nil | (apply Res.tmp; rfl) | (apply Res.cell; rfl; exact (by repeat (first | exact List.Mem.head _ | apply List.Mem.tail)); rfl; rfl))) rfl (fun W hW => ⟨by first | rfl | (simp; done) | (simp_all; done), hW.below⟩)
        · rw [if_neg (fun h => hX h.2)] at hC2
          simp only at hC2
          repeat (first | refine l_val rfl rfl (by first | exact v_add rfl rfl (by omega) (by omega) | exact pureEval_ok rfl | exact v_load rfl (by repeat (first | exact List.Mem.head _ | apply List.Mem.tail)) rfl (by rfl) ) ?_ | refine l_nil ?_ | refine c_region ?_ | refine c_seq ?_ | refine x_then ?_ | refine c_false rfl ?_ | refine c_dec_f rfl (by first | omega ) ?_ | refine c_skip ?_ | refine c_exit ?_ | refine x_then_exit ?_ | refine x_block_same ?_ | refine l_dec_f rfl rfl rfl rfl rfl (by first | omega ) ?_ )
          refine r_call rfl rfl rfl (fun W hW => hC2 W (hA.sat hW) (hL.sat hW)) ?_
          repeat (first | refine l_val rfl rfl (by first | exact v_add rfl rfl (by omega) (by omega) | exact pureEval_ok rfl ) ?_ | refine l_nil ?_ | refine c_region ?_ | refine c_seq ?_ | refine x_then ?_ | refine c_false rfl ?_ | refine c_dec_f rfl (by first | omega ) ?_ | refine c_skip ?_ | refine c_ret ?_ | refine l_dec_t rfl rfl rfl rfl rfl (by first | omega ) ?_ )
          exact x_ret rfl rfl (by repeat (first | exact Res.nil | (apply Res.tmp; rfl) | (apply Res.cell; rfl; exact (by repeat (first | exact List.Mem.head _ | apply List.Mem.tail)); rfl; rfl))) rfl (fun W hW => ⟨by first | rfl | (simp; done) | (simp_all; done), hW.below⟩)
      · subst s2 s3
        clear hsh
        rw [if_neg (fun h => by cases h.1)] at hC2
        simp only at hC2
        repeat (first | refine l_val rfl rfl (by first | exact v_add rfl rfl (by omega) (by omega) | exact pureEval_ok rfl | exact v_load rfl (by repeat (first | exact List.Mem.head _ | apply List.Mem.tail)) rfl (by rfl) ) ?_ | refine l_nil ?_ | refine c_region ?_ | refine c_seq ?_ | refine x_then ?_ | refine c_true rfl ?_ | refine c_dec_f rfl (by first | omega ) ?_ | refine c_skip ?_ | refine c_exit ?_ | refine x_then_exit ?_ | refine x_block_same ?_ | refine l_dec_f rfl rfl rfl rfl rfl (by first | omega ) ?_ )
        refine r_call rfl rfl rfl (fun W hW => hC2 W (hA.sat hW) (hL.sat hW)) ?_
        repeat (first | refine l_val rfl rfl (by first | exact v_add rfl rfl (by omega) (by omega) | exact pureEval_ok rfl ) ?_ | refine l_nil ?_ | refine c_region ?_ | refine c_seq ?_ | refine x_then ?_ | refine l_skip rfl rfl ?_ | refine c_false rfl ?_ | refine c_dec_f rfl (by first | omega ) ?_ | refine c_skip ?_ | refine c_ret ?_ | refine l_dec_t rfl rfl rfl rfl rfl (by first | omega ) ?_ )
        exact x_ret rfl rfl (by repeat (first | exact Res.nil | (apply Res.tmp; rfl) | (apply Res.cell; rfl; exact (by repeat (first | exact List.Mem.head _ | apply List.Mem.tail)); rfl; rfl))) rfl (fun W hW => ⟨by first | rfl | (simp; done) | (simp_all; done), hW.below⟩)
end R13
end Go.Proofs
