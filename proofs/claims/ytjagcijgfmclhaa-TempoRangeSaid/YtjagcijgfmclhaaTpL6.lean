/- Clocks: each bar begins within Begin; walked. -/
import Derived.Test.YtjagcijgfmclhaaTpY
import Derived.Test.YtjagcijgfmclhaaTpV
set_option linter.unusedSectionVars false
set_option linter.unusedVariables false
set_option linter.unusedSimpArgs false
namespace Go.Proofs
open Go.RowKit Go.Kin Go.Kin.Tm
namespace R13
theorem lenF_lo (ps : List Ps) : lenF (ps.map Ps.lo) = loF ps := by
  funext i
  unfold lenF loF
  rw [List.getD_eq_getElem?_getD, List.getD_eq_getElem?_getD, List.getElem?_map]
  cases ps[i]? <;> rfl
theorem lenF_hi (ps : List Ps) : lenF (ps.map Ps.hi) = hiF ps := by
  funext i
  unfold lenF hiF
  rw [List.getD_eq_getElem?_getD, List.getD_eq_getElem?_getD, List.getElem?_map]
  cases ps[i]? <;> rfl
theorem lens_in {ps : List Ps} {l : List Int} (h : lensB ps l = true) (i : Nat) (hi : i < ps.length) : loF ps i ≤ lenF l i ∧ lenF l i ≤ hiF ps i := by
  obtain ⟨e1, e2⟩ := lensB_iff.1 h
  obtain ⟨p, hp⟩ : ∃ p, ps[i]? = some p := ⟨_, List.getElem?_eq_getElem hi⟩
  obtain ⟨x, hx⟩ : ∃ x, l[i]? = some x := ⟨_, List.getElem?_eq_getElem (by omega)⟩
  rw [lenF_of hx]
  unfold loF hiF
  rw [getD_of hp]
  exact e2 i p x hp hx
theorem Bt_three {tk : Int → Int} {ps : List Ps} {l : List Int} (h : lensB ps l = true) (m : Nat) : Bt tk (pa (loF ps) ps 0) m ≤ Bt tk (pa (lenF l) ps 0) m ∧ Bt tk (pa (lenF l) ps 0) m ≤ Bt tk (pa (hiF ps) ps 0) m := by
  have hb : ∀ k : Int, pa (loF ps) ps 0 k ≤ pa (lenF l) ps 0 k ∧ pa (lenF l) ps 0 k ≤ pa (hiF ps) ps 0 k := fun k => pa_bd fun i hi => by rw [Nat.zero_add]; exact lens_in h i hi
  exact ⟨Bt_le (n := m) (fun k _ => (hb k).1) (Nat.le_refl _), Bt_le (n := m) (fun k _ => (hb k).2) (Nat.le_refl _)⟩
theorem lbegin' (c : Clk) (A : Option Addr) (cap len : Nat) (l : List Int) (f : Nat → Int) (bar : Int) (w : World) (hf : lenF l = f) (hlen : l.length = len) (hk0 : c.k = 0) (hps : len = c.ps.length) (hl : ∀ i, i < c.ps.length → 0 ≤ f i ∧ f i ≤ 1048576) (hb : 0 ≤ bar ∧ bar ≤ c.n) (hA : c.In w) (hL : Kin.At w A 1 (l.map inE)) :
    Calls Try.prog 25 ⟨[.agg ⟨c.v⟩, .slice A len cap, .int .i64 bar]⟩ w fun e w' => e = .returned (.tuple ⟨[.int .i64 (Bt (tk c.ts) (pa f c.ps 0) bar.toNat), .bool true]⟩) ∧ Below w.heap.size w w' := by
  subst hf hlen
  exact lbegin_calls c A cap l bar w hk0 hps hl hb hA hL
theorem bgA_err {c : Clk} {bar : Int} (h : (bgA c bar).2 ≠ 0) : (bgA c bar).1 = (0, 0) := by
  by_cases h0 : c.k = 0
  · by_cases hb : 0 ≤ bar ∧ bar ≤ c.n
    · rw [bgA_in h0 hb] at h; exact absurd rfl h
    · rw [bgA_out h0 hb]
  · rw [bgA_no h0]
theorem lgE_k {c : Clk} {l : List Int} (h : lgE c l = 0) : c.k = 0 := by
  by_cases h0 : c.k = 0
  · exact h0
  · rw [lgE_no h0] at h; exact h

set_option maxRecDepth 100000 in
set_option maxHeartbeats 8000000 in
theorem tempoRange_calls (c : Clk) (L : Option Addr) (cap : Nat) (l : List Int) (bar : Int) (w : World) (hA : c.In w) (hL : Kin.At w L 1 (l.map inE)) :
    Calls Try.prog 6 ⟨[.agg ⟨c.v⟩, .slice L l.length cap, .int .i64 bar]⟩ w fun e w' => e = .returned (.bool true) ∧ Below w.heap.size w w' := by
  refine fun_enter Try.func6 rfl Try.ntmps6 rfl rfl (satW_nil w) ?_
  repeat (first | refine l_val rfl rfl (by first | exact pureEval_ok rfl ) ?_ | refine l_nil ?_ | refine c_region ?_ | refine c_seq ?_ | refine x_then ?_ | refine r_box rfl rfl rfl rfl (fun _ => ?_) )
  refine r_call rfl rfl rfl (fun W hW => sane_calls W) ?_
  repeat (first | refine l_val rfl rfl (by first | exact pureEval_ok rfl | exact v_load rfl (by repeat (first | exact List.Mem.head _ | apply List.Mem.tail)) rfl (by rfl) ) ?_ | refine l_nil ?_ | refine c_region ?_ | refine c_seq ?_ | refine x_then ?_ | refine c_false rfl ?_ | refine c_skip ?_ )
  refine r_call rfl rfl rfl (fun W hW => Few_calls c W) ?_
  cases hf : fewB c with
  | false =>
    repeat (first | refine l_val rfl rfl (by first | exact pureEval_ok rfl ) ?_ | refine l_nil ?_ | refine c_region ?_ | refine c_seq ?_ | refine x_then ?_ | refine l_skip rfl rfl ?_ | refine c_true rfl ?_ | refine c_ret ?_ | refine x_then_ret ?_ )
    exact x_ret rfl rfl (by repeat (first | exact Res.nil | (apply Res.tmp; rfl) | (apply Res.cell; rfl; exact (by repeat (first | exact List.Mem.head _ | apply List.Mem.tail)); rfl; rfl))) rfl (fun W hW => ⟨by first | rfl | (simp; done) | (simp_all; done), hW.below⟩)
  | true =>
    by_cases h100 : (l.length : Int) ≤ 100
    rotate_left
    · repeat (first | refine l_val rfl rfl (by first | exact pureEval_ok rfl ) ?_ | refine l_nil ?_ | refine c_region ?_ | refine c_seq ?_ | refine x_then ?_ | refine l_skip rfl rfl ?_ | refine c_true rfl ?_ | refine c_ret ?_ | refine x_then_ret ?_ | refine l_dec_t rfl rfl rfl rfl rfl (by first | omega ) ?_ )
      exact x_ret rfl rfl (by repeat (first | exact Res.nil | (apply Res.tmp; rfl) | (apply Res.cell; rfl; exact (by repeat (first | exact List.Mem.head _ | apply List.Mem.tail)); rfl; rfl))) rfl (fun W hW => ⟨by first | rfl | (simp; done) | (simp_all; done), hW.below⟩)
    by_cases h200 : c.n ≤ 200
    rotate_left
    · repeat (first | refine l_val rfl rfl (by first | exact pureEval_ok rfl | exact v_load rfl (by repeat (first | exact List.Mem.head _ | apply List.Mem.tail)) rfl (by rfl) ) ?_ | refine l_nil ?_ | refine c_region ?_ | refine c_seq ?_ | refine x_then ?_ | refine c_dec_t rfl (by first | omega ) ?_ | refine c_ret ?_ | refine x_then_ret ?_ | refine l_dec_f rfl rfl rfl rfl rfl (by first | omega ) ?_ )
      exact x_ret rfl rfl (by repeat (first | exact Res.nil | (apply Res.tmp; rfl) | (apply Res.cell; rfl; exact (by repeat (first | exact List.Mem.head _ | apply List.Mem.tail)); rfl; rfl))) rfl (fun W hW => ⟨by first | rfl | (simp; done) | (simp_all; done), hW.below⟩)
    have hl := few_sm hf
    have hT := fun W hA hL => Length_calls c L cap l W hl (by omega) hA hL
    have hB := fun bar W hA => Begin_calls c bar W hl hA
    clear hf
    by_cases h0 : lgE c l = 0
    rotate_left
    · rw [lnA_no h0] at hT
      simp only [v2] at hT
      have hB := hB bar
      have herr := bgA_err (c := c) (bar := bar)
      generalize lgE c l = E at *
      generalize bgA c bar = p at *
      obtain ⟨⟨g1, g2⟩, g3⟩ := p
      simp only [vB] at hB herr
      by_cases h3 : g3 = 0
      · subst h3
        clear herr
        repeat (first | refine l_val rfl rfl (by first | exact pureEval_ok rfl | exact v_load rfl (by repeat (first | exact List.Mem.head _ | apply List.Mem.tail)) rfl (by rfl) ) ?_ | refine l_nil ?_ | refine c_region ?_ | refine c_seq ?_ | refine x_then ?_ | refine c_dec_f rfl (by first | omega ) ?_ | refine c_skip ?_ | refine l_dec_f rfl rfl rfl rfl rfl (by first | omega ) ?_ )
        refine r_call rfl rfl rfl (fun W hW => hT W (hA.sat hW) (hL.sat hW)) ?_
        repeat (first | refine l_val rfl rfl (by first | exact pureEval_ok rfl | exact v_load rfl (by repeat (first | exact List.Mem.head _ | apply List.Mem.tail)) rfl (by rfl) ) ?_ | refine l_nil ?_ | refine c_region ?_ | refine c_seq ?_ | refine x_then ?_ )
        refine r_call rfl rfl rfl (fun W hW => hB W (hA.sat hW)) ?_
        repeat (first | refine l_val rfl rfl (by first | exact pureEval_ok rfl | exact v_load rfl (by repeat (first | exact List.Mem.head _ | apply List.Mem.tail)) rfl (by rfl) | exact v_build rfl rfl (by rfl) ) ?_ | refine l_nil ?_ | refine c_region ?_ | refine c_seq ?_ | refine x_then ?_ | refine l_skip rfl rfl ?_ | refine r_alloc rfl rfl rfl (by first | exact aggL ) (fun _ => ?_) | refine r_store rfl rfl rfl rfl rfl rfl rfl (by repeat (first | exact Upd.head | apply Upd.tail)) (by rfl) ?_ | refine c_true rfl ?_ | refine c_ret ?_ | refine x_then_ret ?_ | refine l_dec_t rfl rfl rfl rfl rfl (by first | omega ) ?_ | refine l_dec_f rfl rfl rfl rfl rfl (by first | omega ) ?_ )
        exact x_ret rfl rfl (by repeat (first | exact Res.nil | (apply Res.tmp; rfl) | (apply Res.cell; rfl; exact (by repeat (first | exact List.Mem.head _ | apply List.Mem.tail)); rfl; rfl))) rfl (fun W hW => ⟨by first | rfl | (simp; done) | (simp_all; done), hW.below⟩)
      · obtain ⟨rfl, rfl⟩ : g1 = 0 ∧ g2 = 0 := by simpa using herr h3
        clear herr
        repeat (first | refine l_val rfl rfl (by first | exact pureEval_ok rfl | exact v_load rfl (by repeat (first | exact List.Mem.head _ | apply List.Mem.tail)) rfl (by rfl) ) ?_ | refine l_nil ?_ | refine c_region ?_ | refine c_seq ?_ | refine x_then ?_ | refine c_dec_f rfl (by first | omega ) ?_ | refine c_skip ?_ | refine l_dec_f rfl rfl rfl rfl rfl (by first | omega ) ?_ )
        refine r_call rfl rfl rfl (fun W hW => hT W (hA.sat hW) (hL.sat hW)) ?_
        repeat (first | refine l_val rfl rfl (by first | exact pureEval_ok rfl | exact v_load rfl (by repeat (first | exact List.Mem.head _ | apply List.Mem.tail)) rfl (by rfl) ) ?_ | refine l_nil ?_ | refine c_region ?_ | refine c_seq ?_ | refine x_then ?_ )
        refine r_call rfl rfl rfl (fun W hW => hB W (hA.sat hW)) ?_
        repeat (first | refine l_val rfl rfl (by first | exact pureEval_ok rfl | exact v_load rfl (by repeat (first | exact List.Mem.head _ | apply List.Mem.tail)) rfl (by rfl) | exact v_build rfl rfl (by rfl) | exact v_eqS rfl rfl rfl rfl ) ?_ | refine l_nil ?_ | refine c_region ?_ | refine c_seq ?_ | refine x_then ?_ | refine l_skip rfl rfl ?_ | refine r_alloc rfl rfl rfl (by first | exact aggL ) (fun _ => ?_) | refine r_store rfl rfl rfl rfl rfl rfl rfl (by repeat (first | exact Upd.head | apply Upd.tail)) (by rfl) ?_ | refine c_true rfl ?_ | refine c_ret ?_ | refine x_then_ret ?_ | refine l_dec_t rfl rfl rfl rfl rfl (by first | omega ) ?_ | refine l_dec_f rfl rfl rfl rfl rfl (by first | omega ) ?_ )
        exact x_ret rfl rfl (by repeat (first | exact Res.nil | (apply Res.tmp; rfl) | (apply Res.cell; rfl; exact (by repeat (first | exact List.Mem.head _ | apply List.Mem.tail)); rfl; rfl))) rfl (fun W hW => ⟨by first | rfl | (simp; done) | (simp_all; done), hW.below⟩)
    have hk0 := lgE_k h0
    obtain ⟨hok, h1⟩ := lgE_0 h0
    have hlen := (lensB_iff.1 h1).1
    rw [lnA_yes h0] at hT
    simp only [v2] at hT
    by_cases hb : 0 ≤ bar ∧ bar ≤ c.n
    rotate_left
    · have hB := hB bar
      rw [bgA_out hk0 hb] at hB
      simp only [vB] at hB
      generalize Bt (tk c.ts) (pa (lenF l) c.ps 0) c.n.toNat = N at *
      clear hok h1 hb h0
      repeat (first | refine l_val rfl rfl (by first | exact pureEval_ok rfl | exact v_load rfl (by repeat (first | exact List.Mem.head _ | apply List.Mem.tail)) rfl (by rfl) ) ?_ | refine l_nil ?_ | refine c_region ?_ | refine c_seq ?_ | refine x_then ?_ | refine c_dec_f rfl (by first | omega | exact fun h => h rfl ) ?_ | refine c_skip ?_ | refine l_dec_f rfl rfl rfl rfl rfl (by first | omega | exact fun h => h rfl ) ?_ )
      refine r_call rfl rfl rfl (fun W hW => hT W (hA.sat hW) (hL.sat hW)) ?_
      repeat (first | refine l_val rfl rfl (by first | exact pureEval_ok rfl | exact v_load rfl (by repeat (first | exact List.Mem.head _ | apply List.Mem.tail)) rfl (by rfl) ) ?_ | refine l_nil ?_ | refine c_region ?_ | refine c_seq ?_ | refine x_then ?_ )
      refine r_call rfl rfl rfl (fun W hW => hB W (hA.sat hW)) ?_
      repeat (first | refine l_val rfl rfl (by first | exact pureEval_ok rfl | exact v_load rfl (by repeat (first | exact List.Mem.head _ | apply List.Mem.tail)) rfl (by rfl) | exact v_build rfl rfl (by rfl) | exact v_eqS rfl rfl rfl rfl ) ?_ | refine l_nil ?_ | refine c_region ?_ | refine c_seq ?_ | refine x_then ?_ | refine l_skip rfl rfl ?_ | refine r_alloc rfl rfl rfl (by first | exact aggL ) (fun _ => ?_) | refine r_store rfl rfl rfl rfl rfl rfl rfl (by repeat (first | exact Upd.head | apply Upd.tail)) (by rfl) ?_ | refine c_true rfl ?_ | refine c_ret ?_ | refine x_then_ret ?_ )
      exact x_ret rfl rfl (by repeat (first | exact Res.nil | (apply Res.tmp; rfl) | (apply Res.cell; rfl; exact (by repeat (first | exact List.Mem.head _ | apply List.Mem.tail)); rfl; rfl))) rfl (fun W hW => ⟨by first | rfl | (simp; done) | (simp_all; done), hW.below⟩)
    have hn1 := hok.n1
    have hB1 := hB bar
    have hB2 := hB c.n
    rw [bgA_in hk0 hb] at hB1
    rw [bgA_in hk0 ⟨by omega, Int.le_refl _⟩] at hB2
    simp only [vB] at hB1 hB2
    have c1 := fun A cap len W e1 e2 hA hL => lbegin' c A cap len (c.ps.map Ps.lo) (loF c.ps) bar W (lenF_lo _) e1 hk0 e2 (fun i hi => (lo_bd hok i hi).1) hb hA hL
    have c2 := fun A cap len W e1 e2 hA hL => lbegin' c A cap len (c.ps.map Ps.hi) (hiF c.ps) bar W (lenF_hi _) e1 hk0 e2 (fun i hi => (lo_bd hok i hi).2) hb hA hL
    have c3 := fun W hA hL => lbegin' c L cap l.length l (lenF l) bar W rfl rfl hk0 hlen (fun i hi => (lens_bd hok h1 i hi).1) hb hA hL
    have i1 := Bt_three (tk := tk c.ts) h1 bar.toNat
    have i2 := Bt_three (tk := tk c.ts) h1 c.n.toNat
    have hfine := ok_fine hok h1
    have hloc : Unit → bar < c.n → ∀ W, c.In W → Kin.At W L 1 (l.map inE) → Calls Try.prog 20 ⟨[.agg ⟨c.v⟩, .slice L l.length cap, .int .i64 (Bt (tk c.ts) (pa (lenF l) c.ps 0) bar.toNat)]⟩ W fun e w' => e = .returned (.tuple ⟨[.int .i64 bar, .int .i64 0, .bool true, .int .i64 0]⟩) ∧ Below W.heap.size W w' := fun _ hlt W hA hL => by
      have hB := (Bt_bd (ok_both hok h1) bar.toNat (by omega))
      have hn2 := hok.n2
      have h := Locate_calls c L cap l (Bt (tk c.ts) (pa (lenF l) c.ps 0) bar.toNat) W hl (by omega) hA hL (by omega)
      rw [lcA_some h0 (at_begin hfine (j := bar.toNat) (by omega))] at h
      simp only [v4] at h
      rw [show ((bar.toNat : Nat) : Int) = bar by omega] at h
      exact h
    have heq : Unit → bar = c.n → Bt (tk c.ts) (pa (lenF l) c.ps 0) bar.toNat = Bt (tk c.ts) (pa (lenF l) c.ps 0) c.n.toNat := fun _ h => by rw [h]
    generalize Bt (tk c.ts) (pa (lenF l) c.ps 0) bar.toNat = x at *
    generalize Bt (tk c.ts) (pa (loF c.ps) c.ps 0) bar.toNat = x1 at *
    generalize Bt (tk c.ts) (pa (hiF c.ps) c.ps 0) bar.toNat = x2 at *
    generalize Bt (tk c.ts) (pa (lenF l) c.ps 0) c.n.toNat = y at *
    generalize Bt (tk c.ts) (pa (loF c.ps) c.ps 0) c.n.toNat = y1 at *
    generalize Bt (tk c.ts) (pa (hiF c.ps) c.ps 0) c.n.toNat = y2 at *
    have hlp := hl.b
    clear hok h1 hfine h0 hB
    obtain ⟨i1, i3⟩ := i1
    obtain ⟨i2, i4⟩ := i2
    repeat (first | refine l_val rfl rfl (by first | exact pureEval_ok rfl | exact v_load rfl (by repeat (first | exact List.Mem.head _ | apply List.Mem.tail)) rfl (by rfl) ) ?_ | refine l_nil ?_ | refine c_region ?_ | refine c_seq ?_ | refine x_then ?_ | refine c_dec_f rfl (by first | omega | exact fun h => h rfl ) ?_ | refine c_skip ?_ | refine l_dec_f rfl rfl rfl rfl rfl (by first | omega | exact fun h => h rfl ) ?_ )
    refine r_call rfl rfl rfl (fun W hW => hT W (hA.sat hW) (hL.sat hW)) ?_
    repeat (first | refine l_val rfl rfl (by first | exact pureEval_ok rfl | exact v_load rfl (by repeat (first | exact List.Mem.head _ | apply List.Mem.tail)) rfl (by rfl) ) ?_ | refine l_nil ?_ | refine c_region ?_ | refine c_seq ?_ | refine x_then ?_ )
    refine r_call rfl rfl rfl (fun W hW => hB1 W (hA.sat hW)) ?_
    repeat (first | refine l_val rfl rfl (by first | exact pureEval_ok rfl | exact v_load rfl (by repeat (first | exact List.Mem.head _ | apply List.Mem.tail)) rfl (by rfl) ) ?_ | refine l_nil ?_ | refine c_region ?_ | refine c_seq ?_ | refine x_then ?_ | refine r_alloc rfl rfl rfl (by first | exact aggL ) (fun _ => ?_) | refine r_store rfl rfl rfl rfl rfl rfl rfl (by repeat (first | exact Upd.head | apply Upd.tail)) (by rfl) ?_ | refine c_false rfl ?_ | refine c_skip ?_ )
    refine r_call rfl rfl rfl (fun W hW => hB2 W (hA.sat hW)) ?_
    repeat (first | refine l_val rfl rfl (by first | exact pureEval_ok rfl | exact v_load rfl (by repeat (first | exact List.Mem.head _ | apply List.Mem.tail)) rfl (by rfl) ) ?_ | refine l_nil ?_ | refine c_region ?_ | refine c_seq ?_ | refine x_then ?_ | refine r_alloc rfl rfl rfl (by first | exact aggL ) (fun _ => ?_) | refine r_store rfl rfl rfl rfl rfl rfl rfl (by repeat (first | exact Upd.head | apply Upd.tail)) (by rfl) ?_ )
    rcases Nat.eq_zero_or_pos c.ps.length with hz | hz
    · have hnil : c.ps = [] := List.eq_nil_of_length_eq_zero hz
      have d1 := fun W hA => c1 none 0 0 W (by rw [hnil]; rfl) hz.symm hA (by rw [hnil]; exact at_nil _ _)
      have d2 := fun W hA => c2 none 0 0 W (by rw [hnil]; rfl) hz.symm hA (by rw [hnil]; exact at_nil _ _)
      refine r_call rfl rfl rfl (fun W hW => ends_nil c W hz) ?_
      clear c1 c2 hz hnil
      repeat (first | refine l_val rfl rfl (by first | exact pureEval_ok rfl | exact v_load rfl (by repeat (first | exact List.Mem.head _ | apply List.Mem.tail)) rfl (by rfl) ) ?_ | refine l_nil ?_ | refine c_region ?_ | refine c_seq ?_ | refine x_then ?_ )
      refine r_call rfl rfl rfl (fun W hW => d1 W (hA.sat hW)) ?_
      repeat (first | refine l_val rfl rfl (by first | exact pureEval_ok rfl | exact v_load rfl (by repeat (first | exact List.Mem.head _ | apply List.Mem.tail)) rfl (by rfl) ) ?_ | refine l_nil ?_ | refine c_region ?_ | refine c_seq ?_ | refine x_then ?_ )
      refine r_call rfl rfl rfl (fun W hW => d2 W (hA.sat hW)) ?_
      repeat (first | refine l_val rfl rfl (by first | exact pureEval_ok rfl | exact v_load rfl (by repeat (first | exact List.Mem.head _ | apply List.Mem.tail)) rfl (by rfl) ) ?_ | refine l_nil ?_ | refine c_region ?_ | refine c_seq ?_ | refine x_then ?_ )
      refine r_call rfl rfl rfl (fun W hW => c3 W (hA.sat hW) (hL.sat hW)) ?_
      by_cases hbn : bar = c.n
      · have hxy := heq () hbn
        repeat (first | refine l_val rfl rfl (by first | exact pureEval_ok rfl | exact v_load rfl (by repeat (first | exact List.Mem.head _ | apply List.Mem.tail)) rfl (by rfl) | exact v_build rfl rfl (by rfl) | exact v_neS rfl rfl rfl rfl ) ?_ | refine l_nil ?_ | refine c_region ?_ | refine c_seq ?_ | refine x_then ?_ | refine c_dec_t rfl (by first | omega ) ?_ | refine c_dec_f rfl (by first | omega | exact fun h => h rfl ) ?_ | refine c_skip ?_ | refine c_ret ?_ | refine x_then_ret ?_ | refine l_dec_f rfl rfl rfl rfl rfl (by first | omega | exact fun h => h rfl ) ?_ | refine l_nand_f rfl rfl rfl rfl (by first | omega ) (by first | omega ) ?_ )
        exact x_ret rfl rfl (by repeat (first | exact Res.nil | (apply Res.tmp; rfl) | (apply Res.cell; rfl; exact (by repeat (first | exact List.Mem.head _ | apply List.Mem.tail)); rfl; rfl))) rfl (fun W hW => ⟨by first | rfl | (simp; done) | (simp_all; done), hW.below⟩)
      · have hloc := hloc () (by omega)
        repeat (first | refine l_val rfl rfl (by first | exact pureEval_ok rfl | exact v_load rfl (by repeat (first | exact List.Mem.head _ | apply List.Mem.tail)) rfl (by rfl) | exact v_build rfl rfl (by rfl) | exact v_neS rfl rfl rfl rfl ) ?_ | refine l_nil ?_ | refine c_region ?_ | refine c_seq ?_ | refine x_then ?_ | refine c_dec_f rfl (by first | omega ) ?_ | refine c_skip ?_ | refine l_dec_f rfl rfl rfl rfl rfl (by first | omega ) ?_ | refine l_nand_f rfl rfl rfl rfl (by first | omega ) (by first | omega ) ?_ )
        refine r_call rfl rfl rfl (fun W hW => hloc W (hA.sat hW) (hL.sat hW)) ?_
        repeat (first | refine l_val rfl rfl (by first | exact pureEval_ok rfl ) ?_ | refine l_nil ?_ | refine c_region ?_ | refine c_seq ?_ | refine x_then ?_ | refine c_ret ?_ | refine l_dec_t rfl rfl rfl rfl rfl (by first | omega ) ?_ )
        exact x_ret rfl rfl (by repeat (first | exact Res.nil | (apply Res.tmp; rfl) | (apply Res.cell; rfl; exact (by repeat (first | exact List.Mem.head _ | apply List.Mem.tail)); rfl; rfl))) rfl (fun W hW => ⟨by first | rfl | (simp; done) | (simp_all; done), hW.below⟩)
    · refine r_call2 (ι := EA (c.ps.map Ps.lo) (c.ps.map Ps.hi)) (bk := fun q => q.b1) (bk2 := fun q => q.b2) rfl rfl rfl (fun W hW => ends_calls c W hlp hz (hA.sat hW)) (fun q => ?_)
      obtain ⟨b1, k1, r1, b2, k2, r2⟩ := q
      clear hz
      repeat (first | refine l_val rfl rfl (by first | exact pureEval_ok rfl | exact v_load rfl (by repeat (first | exact List.Mem.head _ | apply List.Mem.tail)) rfl (by rfl) ) ?_ | refine l_nil ?_ | refine c_region ?_ | refine c_seq ?_ | refine x_then ?_ )
      refine r_call rfl rfl rfl (fun W hW => c1 (some ⟨b1, 0, none⟩) k1 c.ps.length W (by simp) rfl (hA.sat hW) (hW.rows (b := b1) (by repeat (first | exact List.Mem.head _ | apply List.Mem.tail)) (rest := r1) (by rw [ints_rows]) (in_len _))) ?_
      repeat (first | refine l_val rfl rfl (by first | exact pureEval_ok rfl | exact v_load rfl (by repeat (first | exact List.Mem.head _ | apply List.Mem.tail)) rfl (by rfl) ) ?_ | refine l_nil ?_ | refine c_region ?_ | refine c_seq ?_ | refine x_then ?_ )
      refine r_call rfl rfl rfl (fun W hW => c2 (some ⟨b2, 0, none⟩) k2 c.ps.length W (by simp) rfl (hA.sat hW) (hW.rows (b := b2) (by repeat (first | exact List.Mem.head _ | apply List.Mem.tail)) (rest := r2) (by rw [ints_rows]) (in_len _))) ?_
      repeat (first | refine l_val rfl rfl (by first | exact pureEval_ok rfl | exact v_load rfl (by repeat (first | exact List.Mem.head _ | apply List.Mem.tail)) rfl (by rfl) ) ?_ | refine l_nil ?_ | refine c_region ?_ | refine c_seq ?_ | refine x_then ?_ )
      refine r_call rfl rfl rfl (fun W hW => c3 W (hA.sat hW) (hL.sat hW)) ?_
      by_cases hbn : bar = c.n
      · have hxy := heq () hbn
        repeat (first | refine l_val rfl rfl (by first | exact pureEval_ok rfl | exact v_load rfl (by repeat (first | exact List.Mem.head _ | apply List.Mem.tail)) rfl (by rfl) | exact v_build rfl rfl (by rfl) | exact v_neS rfl rfl rfl rfl ) ?_ | refine l_nil ?_ | refine c_region ?_ | refine c_seq ?_ | refine x_then ?_ | refine c_dec_t rfl (by first | omega ) ?_ | refine c_dec_f rfl (by first | omega | exact fun h => h rfl ) ?_ | refine c_skip ?_ | refine c_ret ?_ | refine x_then_ret ?_ | refine l_dec_f rfl rfl rfl rfl rfl (by first | omega | exact fun h => h rfl ) ?_ | refine l_nand_f rfl rfl rfl rfl (by first | omega ) (by first | omega ) ?_ )
        exact x_ret rfl rfl (by repeat (first | exact Res.nil | (apply Res.tmp; rfl) | (apply Res.cell; rfl; exact (by repeat (first | exact List.Mem.head _ | apply List.Mem.tail)); rfl; rfl))) rfl (fun W hW => ⟨by first | rfl | (simp; done) | (simp_all; done), hW.below⟩)
      · have hloc := hloc () (by omega)
        repeat (first | refine l_val rfl rfl (by first | exact pureEval_ok rfl | exact v_load rfl (by repeat (first | exact List.Mem.head _ | apply List.Mem.tail)) rfl (by rfl) | exact v_build rfl rfl (by rfl) | exact v_neS rfl rfl rfl rfl ) ?_ | refine l_nil ?_ | refine c_region ?_ | refine c_seq ?_ | refine x_then ?_ | refine c_dec_f rfl (by first | omega ) ?_ | refine c_skip ?_ | refine l_dec_f rfl rfl rfl rfl rfl (by first | omega ) ?_ | refine l_nand_f rfl rfl rfl rfl (by first | omega ) (by first | omega ) ?_ )
        refine r_call rfl rfl rfl (fun W hW => hloc W (hA.sat hW) (hL.sat hW)) ?_
        repeat (first | refine l_val rfl rfl (by first | exact pureEval_ok rfl ) ?_ | refine l_nil ?_ | refine c_region ?_ | refine c_seq ?_ | refine x_then ?_ | refine c_ret ?_ | refine l_dec_t rfl rfl rfl rfl rfl (by first | omega ) ?_ )
        exact x_ret rfl rfl (by repeat (first | exact Res.nil | (apply Res.tmp; rfl) | (apply Res.cell; rfl; exact (by repeat (first | exact List.Mem.head _ | apply List.Mem.tail)); rfl; rfl))) rfl (fun W hW => ⟨by first | rfl | (simp; done) | (simp_all; done), hW.below⟩)
end R13
end Go.Proofs
