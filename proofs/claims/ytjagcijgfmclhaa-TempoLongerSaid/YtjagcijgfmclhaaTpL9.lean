/- Clocks: a longer pause; walked. -/
import Derived.Test.YtjagcijgfmclhaaTpY
import Derived.Test.YtjagcijgfmclhaaTpV
set_option linter.unusedSectionVars false
set_option linter.unusedVariables false
set_option linter.unusedSimpArgs false
namespace Go.Proofs
open Go.RowKit Go.Kin Go.Kin.Tm
namespace R13
theorem pa_congr {f g : Nat → Int} {k : Int} : ∀ {ps : List Ps} {o : Nat}, (∀ (m : Nat) (p : Ps), ps[m]? = some p → p.bar = k → f (o + m) = g (o + m)) → pa f ps o k = pa g ps o k
  | [], _, _ => rfl
  | p :: l, o, h => by
    unfold pa
    by_cases hk : p.bar = k
    · rw [if_pos hk, if_pos hk]; exact h 0 p rfl hk
    · rw [if_neg hk, if_neg hk]
      refine pa_congr fun m q hq hqk => ?_
      have := h (m + 1) q (by simpa using hq) hqk
      rwa [show o + (m + 1) = o + 1 + m by omega] at this
/-- one pause is longer -/
theorem pa_more {ps : List Ps} {n b : Int} {f g : Nat → Int} {i : Nat} {p : Ps} (ha : ascP (-1) n ps = true) (hp : ps[i]? = some p) (hg : ∀ m, g m = if m = i then f m + b else f m) (k : Int) : pa g ps 0 k = if k = p.bar then pa f ps 0 k + b else pa f ps 0 k := by
  by_cases hk : k = p.bar
  · rw [if_pos hk]
    have ho : ∀ j q, j < i → ps[j]? = some q → q.bar ≠ k := fun j q hj hq => by have := ascP_lt ha hj hq hp; omega
    rw [pa_some hp hk.symm ho, pa_some hp hk.symm ho, hg, if_pos (by omega)]
  · rw [if_neg hk]
    refine pa_congr fun m q hq hqk => ?_
    rw [Nat.zero_add, hg, if_neg (fun e => hk (by subst e; rw [hp] at hq; cases hq; exact hqk.symm))]
theorem lenF_set {l : List Int} {i : Nat} {y : Int} (hi : i < l.length) (m : Nat) : lenF (l.set i y) m = if m = i then y else lenF l m := by
  unfold lenF
  rw [List.getD_eq_getElem?_getD, List.getD_eq_getElem?_getD, List.getElem?_set]
  by_cases h : i = m
  · subst h; rw [if_pos rfl, if_pos hi, if_pos rfl]; rfl
  · rw [if_neg h, if_neg (fun e => h e.symm)]
theorem lgE_kk {c : Clk} {l : List Int} (h : lgE c l = 0) : c.k = 0 := by
  by_cases h0 : c.k = 0
  · exact h0
  · rw [lgE_no h0] at h; exact h
def bare (c : Clk) : Clk := ⟨c.n, c.ts, c.ps, [], c.A, c.B, none, c.ca, c.cb, 0⟩
theorem lgE_bare {c : Clk} {l : List Int} (h : lgE c l = 0) : lgE (bare c) l = 0 := by
  obtain ⟨hok, h1⟩ := lgE_0 h
  refine lgE_yes (chk_ok.2 ⟨?_, hok.n1, hok.n2, hok.t0, hok.asc, hok.bars, hok.ascP, fun s hs => by cases hs⟩) h1
  have := hok.lim
  exact ⟨this.1, this.2.1, Nat.zero_le _⟩
theorem ints_flat {w : World} {A : Option Addr} {l : List Int} (hA : Kin.At w A 1 (l.map inE)) (h : 0 < l.length) : ∃ b o, A = some ⟨b, o, none⟩ ∧ Ext w (base w) b o (ints l) := by
  obtain ⟨x, hx⟩ : ∃ x, l[0]? = some x := ⟨_, List.getElem?_eq_getElem h⟩
  obtain ⟨b, o, rfl, hc⟩ := ext_at hA hx
  refine ⟨b, o, rfl, lt_of_cell (hc 0 _ rfl), fun i v hi => ?_⟩
  simp only [ints, List.getElem?_map] at hi
  cases hl : l[i]? with
  | none => rw [hl] at hi; cases hi
  | some y =>
    rw [hl] at hi
    obtain ⟨b', o', e, hc'⟩ := ext_at hA hl
    cases e
    have := hc' 0 v hi
    rwa [Nat.mul_one, Nat.add_zero] at this
theorem ints_one (l : List Int) : allOne (ints l) = true := by
  induction l with
  | nil => rfl
  | cons x l ih => simp only [ints, List.map_cons] at ih ⊢; simp only [allOne, ih, Bool.and_true]; rfl
theorem ints_get {l r : List Int} {rest : List Value} {i : Nat} {x : Int} (h : l[i]? = some x) : (ints l ++ rest)[i]? = some (.int .i64 x) := by
  have hl := (List.getElem?_eq_some_iff.1 h).1
  rw [List.getElem?_append_left (by rw [ints_len]; exact hl)]
  simp [ints, h]
theorem ints_set {l : List Int} {rest : List Value} {i : Nat} {y : Int} (h : i < l.length) : (ints l ++ rest).set i (.int .i64 y) = ints (l.set i y) ++ rest := by
  rw [List.set_append_left _ _ (by rw [ints_len]; exact h)]
  simp [ints, List.map_set]
theorem Length' (c : Clk) (A : Option Addr) (cap len : Nat) (l : List Int) (w : World) (hlen : l.length = len) (hl : c.Sm) (hl2 : l.length ≤ 5000) (hA : c.In w) (hL : Kin.At w A 1 (l.map inE)) :
    Calls Try.prog 18 ⟨[.agg ⟨c.v⟩, .slice A len cap]⟩ w fun e w' => e = .returned (v2 (lnA c l)) ∧ Below w.heap.size w w' := by
  subst hlen; exact Length_calls c A cap l w hl hl2 hA hL
theorem Locate' (c : Clk) (A : Option Addr) (cap len : Nat) (l : List Int) (t : Int) (w : World) (hlen : l.length = len) (hl : c.Sm) (hl2 : l.length ≤ 5000) (hA : c.In w) (hL : Kin.At w A 1 (l.map inE)) (ht : t ≤ 9223372036854775807) :
    Calls Try.prog 20 ⟨[.agg ⟨c.v⟩, .slice A len cap, .int .i64 t]⟩ w fun e w' => e = .returned (v4 (lcA c l t)) ∧ Below w.heap.size w w' := by
  subst hlen; exact Locate_calls c A cap l t w hl hl2 hA hL ht

set_option maxRecDepth 100000 in
set_option maxHeartbeats 8000000 in
theorem tempoLonger_calls (c : Clk) (L : Option Addr) (cap : Nat) (l : List Int) (at' by' t : Int) (w : World) (hA : c.In w) (hL : Kin.At w L 1 (l.map inE)) (hlb : ∀ x ∈ l, -9223372036854775808 ≤ x ∧ x ≤ 9223372036854775807) (ha : 0 ≤ at' ∧ at' ≤ 255) (hb : 0 ≤ by' ∧ by' ≤ 255) (ht : t ≤ 9223372036854775807) :
    Calls Try.prog 9 ⟨[.agg ⟨c.v⟩, .slice L l.length cap, .int .u8 at', .int .u8 by', .int .i64 t]⟩ w fun e w' => e = .returned (.bool true) ∧ Below w.heap.size w w' := by
  refine fun_enter Try.func9 rfl Try.ntmps9 rfl rfl (satW_nil w) ?_
  obtain ⟨ha1, ha2⟩ := ha
  obtain ⟨hb1, hb2⟩ := hb
  repeat (first | refine l_val rfl rfl (by first | exact pureEval_ok rfl ) ?_ | refine l_nil ?_ | refine c_region ?_ | refine c_seq ?_ | refine x_then ?_ | refine r_box rfl rfl rfl rfl (fun _ => ?_) )
  refine r_call rfl rfl rfl (fun W hW => sane_calls W) ?_
  repeat (first | refine l_val rfl rfl (by first | exact pureEval_ok rfl | exact v_load rfl (by repeat (first | exact List.Mem.head _ | apply List.Mem.tail)) rfl (by rfl) ) ?_ | refine l_nil ?_ | refine c_region ?_ | refine c_seq ?_ | refine x_then ?_ | refine c_false rfl ?_ | refine c_skip ?_ )
  refine r_call rfl rfl rfl (fun W hW => Few_calls c W) ?_
  cases hf : fewB c with
  | false =>
    repeat (first | refine l_val rfl rfl (by first | exact pureEval_ok rfl ) ?_ | refine l_nil ?_ | refine c_region ?_ | refine c_seq ?_ | refine x_then ?_ | refine l_skip rfl rfl ?_ | refine c_true rfl ?_ | refine c_ret ?_ | refine x_then_ret ?_ )
    exact x_ret rfl rfl (by repeat (first | exact Res.nil | (apply Res.tmp; rfl) | (apply Res.cell; rfl; exact (by repeat (first | exact List.Mem.head _ | apply List.Mem.tail)); rfl; rfl))) rfl (fun W hW => ⟨by first | rfl | (simp; done) | (simp_all; done), hW.below⟩)
  | true =>
    by_cases h100 : (l.length : Int) ≤ 100
    rotate_left
    · repeat (first | refine l_val rfl rfl (by first | exact pureEval_ok rfl ) ?_ | refine l_nil ?_ | refine c_region ?_ | refine c_seq ?_ | refine x_then ?_ | refine l_skip rfl rfl ?_ | refine c_true rfl ?_ | refine c_ret ?_ | refine x_then_ret ?_ | refine l_dec_t rfl rfl rfl rfl rfl (by first | omega ) ?_ )
      exact x_ret rfl rfl (by repeat (first | exact Res.nil | (apply Res.tmp; rfl) | (apply Res.cell; rfl; exact (by repeat (first | exact List.Mem.head _ | apply List.Mem.tail)); rfl; rfl))) rfl (fun W hW => ⟨by first | rfl | (simp; done) | (simp_all; done), hW.below⟩)
    by_cases hz : (l.length : Int) = 0
    · repeat (first | refine l_val rfl rfl (by first | exact pureEval_ok rfl ) ?_ | refine l_nil ?_ | refine c_region ?_ | refine c_seq ?_ | refine x_then ?_ | refine l_skip rfl rfl ?_ | refine c_true rfl ?_ | refine c_ret ?_ | refine x_then_ret ?_ | refine l_dec_t rfl rfl rfl rfl rfl (by first | omega ) ?_ | refine l_dec_f rfl rfl rfl rfl rfl (by first | omega ) ?_ )
      exact x_ret rfl rfl (by repeat (first | exact Res.nil | (apply Res.tmp; rfl) | (apply Res.cell; rfl; exact (by repeat (first | exact List.Mem.head _ | apply List.Mem.tail)); rfl; rfl))) rfl (fun W hW => ⟨by first | rfl | (simp; done) | (simp_all; done), hW.below⟩)
    by_cases h200 : c.n ≤ 200
    rotate_left
    · repeat (first | refine l_val rfl rfl (by first | exact pureEval_ok rfl | exact v_load rfl (by repeat (first | exact List.Mem.head _ | apply List.Mem.tail)) rfl (by rfl) ) ?_ | refine l_nil ?_ | refine c_region ?_ | refine c_seq ?_ | refine x_then ?_ | refine c_dec_t rfl (by first | omega ) ?_ | refine c_ret ?_ | refine x_then_ret ?_ | refine l_dec_f rfl rfl rfl rfl rfl (by first | omega ) ?_ )
      exact x_ret rfl rfl (by repeat (first | exact Res.nil | (apply Res.tmp; rfl) | (apply Res.cell; rfl; exact (by repeat (first | exact List.Mem.head _ | apply List.Mem.tail)); rfl; rfl))) rfl (fun W hW => ⟨by first | rfl | (simp; done) | (simp_all; done), hW.below⟩)
    have hl := few_sm hf
    clear hf
    obtain ⟨i, hi⟩ : ∃ i : Nat, at' % (l.length : Int) = i := ⟨(at' % (l.length : Int)).toNat, by have := Int.emod_nonneg at' hz; omega⟩
    have hil : i < l.length := by have := Int.emod_lt_of_pos at' (show 0 < (l.length : Int) by omega); omega
    obtain ⟨x, hx⟩ : ∃ x, l[i]? = some x := ⟨_, List.getElem?_eq_getElem hil⟩
    obtain ⟨hx1, hx2⟩ := hlb x (List.mem_of_getElem? hx)
    obtain ⟨bA, oA, rfl, hE⟩ := ints_flat hL (by omega)
    clear hlb
    repeat ((fail_if_success refine c_probe (id := 6) ?_); (fail_if_success refine c_probe1 (id := 6) ?_); first | refine l_val rfl rfl (by first | exact v_iconv rfl rfl rfl (by omega) (by omega) | exact pureEval_ok rfl | exact v_load rfl (by repeat (first | exact List.Mem.head _ | apply List.Mem.tail)) rfl (by rfl) | exact v_rem rfl rfl (by omega) (by omega) ) ?_ | refine l_nil ?_ | refine c_region ?_ | refine c_seq ?_ | refine x_then ?_ | refine c_dec_f rfl (by first | omega ) ?_ | refine c_skip ?_ | refine l_dec_f rfl rfl rfl rfl rfl (by first | omega ) ?_ )
    rw [hi]
    clear hi
    repeat (first | refine l_val rfl rfl (by first | exact pureEval_ok rfl ) ?_ | refine c_region ?_ | refine c_seq ?_ | refine r_buildSlice rfl rfl rfl rfl rfl rfl (by rfl) (fun _ => ?_) )
    refine r_append (n := 0) (m := l.length) (xs := []) (rest := []) (ys := ints l) rfl rfl rfl rfl rfl rfl (news_ext hE) (by repeat (first | exact Rem.head | apply Rem.tail)) ⟨rfl, rfl, Nat.le_refl _, Nat.zero_le _⟩ (by rw [ints_len]; omega) (ints_one l) rfl (by omega) (by unfold maxLen; omega) (fun bm capm restm hgm => ?_)
    rw [List.nil_append, Nat.zero_add]
    have hget := ints_get (rest := restm) (r := []) hx
    repeat (first | refine l_val rfl rfl (by first | exact pureEval_ok rfl | exact v_index rfl rfl rfl rfl (by omega) (by omega) (by with_reducible first | exact idx1 _  ) | exact v_load_at rfl (by repeat (first | exact List.Mem.head _ | apply List.Mem.tail)) rfl rfl (by first | assumption ) ) ?_ | refine l_nil ?_ | refine c_region ?_ | refine c_seq ?_ | refine x_then ?_ )
    by_cases hx3 : x ≤ 1048576
    rotate_left
    · repeat (first | refine l_val rfl rfl (by first | exact pureEval_ok rfl ) ?_ | refine l_nil ?_ | refine c_region ?_ | refine c_seq ?_ | refine x_then ?_ | refine c_dec_t rfl (by first | omega ) ?_ | refine c_ret ?_ | refine x_then_ret ?_ )
      exact x_ret rfl rfl (by repeat (first | exact Res.nil | (apply Res.tmp; rfl) | (apply Res.cell; rfl; exact (by repeat (first | exact List.Mem.head _ | apply List.Mem.tail)); rfl; rfl))) rfl (fun W hW => ⟨by first | rfl | (simp; done) | (simp_all; done), hW.below⟩)
    repeat (first | refine l_val rfl rfl (by first | exact v_add rfl rfl (by omega) (by omega) | exact v_iconv rfl rfl rfl (by omega) (by omega) | exact pureEval_ok rfl | exact v_index rfl rfl rfl rfl (by omega) (by omega) (by with_reducible first | exact idx1 _  ) | exact v_load_at rfl (by repeat (first | exact List.Mem.head _ | apply List.Mem.tail)) rfl rfl (by first | assumption ) ) ?_ | refine c_region ?_ | refine c_seq ?_ | refine x_then ?_ | refine c_dec_f rfl (by first | omega ) ?_ | refine c_skip ?_ )
    refine r_store_at rfl rfl rfl rfl rfl rfl (by repeat (first | exact Upd.head | apply Upd.tail)) (by rw [List.length_append, ints_len]; omega) (ints_set hil) ?_
    obtain ⟨l', hl'⟩ : ∃ l', l.set i (x + by') = l' := ⟨_, rfl⟩
    have hlen' : l'.length = l.length := by rw [← hl', List.length_set]
    have hF : ∀ m, lenF l' m = if m = i then lenF l m + by' else lenF l m := fun m => by
      rw [← hl', lenF_set hil]
      by_cases e : m = i
      · subst e; rw [if_pos rfl, if_pos rfl, lenF_of hx]
      · rw [if_neg e, if_neg e]
    rw [hl']
    clear hl' hget hE
    have hC := fun W hA hL => Locate_calls c (some ⟨bA, oA, none⟩) cap l t W hl (by omega) hA hL ht
    have hT1 := fun W hA hL => Length_calls c (some ⟨bA, oA, none⟩) cap l W hl (by omega) hA hL
    have hT2 := fun W hA hL => Length' c (some ⟨bm, 0, none⟩) capm l.length l' W hlen' hl (by omega) hA hL
    by_cases h0 : lgE c l = 0
    rotate_left
    · rw [lcA_no h0] at hC
      generalize lnA c l = p1 at *
      generalize lnA c l' = p2 at *
      simp only [v2] at hT1 hT2
      simp only [v4] at hC
      generalize lgE c l = E at *
      repeat (first | refine l_val rfl rfl (by first | exact pureEval_ok rfl | exact v_load rfl (by repeat (first | exact List.Mem.head _ | apply List.Mem.tail)) rfl (by rfl) ) ?_ | refine l_nil ?_ | refine c_region ?_ | refine c_seq ?_ | refine x_then ?_ )
      refine r_call rfl rfl rfl (fun W hW => hC W (hA.sat hW) (hL.sat hW)) ?_
      repeat (first | refine l_val rfl rfl (by first | exact pureEval_ok rfl | exact v_load rfl (by repeat (first | exact List.Mem.head _ | apply List.Mem.tail)) rfl (by rfl) ) ?_ | refine l_nil ?_ | refine c_region ?_ | refine c_seq ?_ | refine x_then ?_ )
      refine r_call rfl rfl rfl (fun W hW => hT1 W (hA.sat hW) (hL.sat hW)) ?_
      repeat (first | refine l_val rfl rfl (by first | exact pureEval_ok rfl | exact v_load rfl (by repeat (first | exact List.Mem.head _ | apply List.Mem.tail)) rfl (by rfl) ) ?_ | refine l_nil ?_ | refine c_region ?_ | refine c_seq ?_ | refine x_then ?_ )
      refine r_call rfl rfl rfl (fun W hW => hT2 W (hA.sat hW) (hW.rows (b := bm) (by repeat (first | exact List.Mem.head _ | apply List.Mem.tail)) (rest := restm) (by rw [ints_rows]) (in_len _))) ?_
      repeat (first | refine l_val rfl rfl (by first | exact pureEval_ok rfl ) ?_ | refine l_nil ?_ | refine c_region ?_ | refine c_seq ?_ | refine x_then ?_ | refine l_skip rfl rfl ?_ | refine c_true rfl ?_ | refine c_ret ?_ | refine x_then_ret ?_ | refine l_dec_t rfl rfl rfl rfl rfl (by first | omega ) ?_ )
      exact x_ret rfl rfl (by repeat (first | exact Res.nil | (apply Res.tmp; rfl) | (apply Res.cell; rfl; exact (by repeat (first | exact List.Mem.head _ | apply List.Mem.tail)); rfl; rfl))) rfl (fun W hW => ⟨by first | rfl | (simp; done) | (simp_all; done), hW.below⟩)
    obtain ⟨hok, h1⟩ := lgE_0 h0
    have hfine := ok_fine hok h1
    have hlen := (lensB_iff.1 h1).1
    by_cases hr : 0 ≤ t ∧ t < Bt (tk c.ts) (pa (lenF l) c.ps 0) c.n.toNat
    rotate_left
    · rw [lcA_none h0 (locA_out hfine (by omega))] at hC
      generalize lnA c l = p1 at *
      generalize lnA c l' = p2 at *
      simp only [v2] at hT1 hT2
      simp only [v4] at hC
      clear hok h1 hfine h0 hr hF
      repeat (first | refine l_val rfl rfl (by first | exact pureEval_ok rfl | exact v_load rfl (by repeat (first | exact List.Mem.head _ | apply List.Mem.tail)) rfl (by rfl) ) ?_ | refine l_nil ?_ | refine c_region ?_ | refine c_seq ?_ | refine x_then ?_ )
      refine r_call rfl rfl rfl (fun W hW => hC W (hA.sat hW) (hL.sat hW)) ?_
      repeat (first | refine l_val rfl rfl (by first | exact pureEval_ok rfl | exact v_load rfl (by repeat (first | exact List.Mem.head _ | apply List.Mem.tail)) rfl (by rfl) ) ?_ | refine l_nil ?_ | refine c_region ?_ | refine c_seq ?_ | refine x_then ?_ )
      refine r_call rfl rfl rfl (fun W hW => hT1 W (hA.sat hW) (hL.sat hW)) ?_
      repeat (first | refine l_val rfl rfl (by first | exact pureEval_ok rfl | exact v_load rfl (by repeat (first | exact List.Mem.head _ | apply List.Mem.tail)) rfl (by rfl) ) ?_ | refine l_nil ?_ | refine c_region ?_ | refine c_seq ?_ | refine x_then ?_ )
      refine r_call rfl rfl rfl (fun W hW => hT2 W (hA.sat hW) (hW.rows (b := bm) (by repeat (first | exact List.Mem.head _ | apply List.Mem.tail)) (rest := restm) (by rw [ints_rows]) (in_len _))) ?_
      repeat (first | refine l_val rfl rfl (by first | exact pureEval_ok rfl ) ?_ | refine l_nil ?_ | refine c_region ?_ | refine c_seq ?_ | refine x_then ?_ | refine l_skip rfl rfl ?_ | refine c_true rfl ?_ | refine c_ret ?_ | refine x_then_ret ?_ )
      exact x_ret rfl rfl (by repeat (first | exact Res.nil | (apply Res.tmp; rfl) | (apply Res.cell; rfl; exact (by repeat (first | exact List.Mem.head _ | apply List.Mem.tail)); rfl; rfl))) rfl (fun W hW => ⟨by first | rfl | (simp; done) | (simp_all; done), hW.below⟩)
    obtain ⟨r1, r2⟩ := hr
    obtain ⟨j, j1, j2, j3⟩ := find_bar r1 r2
    have hloc := locA_in hfine r1 j1 j2 j3
    rw [lcA_some h0 hloc] at hC
    rw [lnA_yes h0] at hT1
    by_cases h0' : lgE c l' = 0
    rotate_left
    · rw [lnA_no h0'] at hT2
      simp only [v2] at hT1 hT2
      simp only [v4] at hC
      generalize lgE c l' = E at *
      generalize ans (tk c.ts) (pa (lenF l) c.ps 0) j t = a at *
      generalize Bt (tk c.ts) (pa (lenF l) c.ps 0) c.n.toNat = N at *
      clear hok h1 hfine h0 hF hloc j2 j3
      repeat (first | refine l_val rfl rfl (by first | exact pureEval_ok rfl | exact v_load rfl (by repeat (first | exact List.Mem.head _ | apply List.Mem.tail)) rfl (by rfl) ) ?_ | refine l_nil ?_ | refine c_region ?_ | refine c_seq ?_ | refine x_then ?_ )
      refine r_call rfl rfl rfl (fun W hW => hC W (hA.sat hW) (hL.sat hW)) ?_
      repeat (first | refine l_val rfl rfl (by first | exact pureEval_ok rfl | exact v_load rfl (by repeat (first | exact List.Mem.head _ | apply List.Mem.tail)) rfl (by rfl) ) ?_ | refine l_nil ?_ | refine c_region ?_ | refine c_seq ?_ | refine x_then ?_ )
      refine r_call rfl rfl rfl (fun W hW => hT1 W (hA.sat hW) (hL.sat hW)) ?_
      repeat (first | refine l_val rfl rfl (by first | exact pureEval_ok rfl | exact v_load rfl (by repeat (first | exact List.Mem.head _ | apply List.Mem.tail)) rfl (by rfl) ) ?_ | refine l_nil ?_ | refine c_region ?_ | refine c_seq ?_ | refine x_then ?_ )
      refine r_call rfl rfl rfl (fun W hW => hT2 W (hA.sat hW) (hW.rows (b := bm) (by repeat (first | exact List.Mem.head _ | apply List.Mem.tail)) (rest := restm) (by rw [ints_rows]) (in_len _))) ?_
      repeat (first | refine l_val rfl rfl (by first | exact pureEval_ok rfl ) ?_ | refine l_nil ?_ | refine c_region ?_ | refine c_seq ?_ | refine x_then ?_ | refine c_dec_t rfl (by first | omega ) ?_ | refine c_ret ?_ | refine x_then_ret ?_ )
      exact x_ret rfl rfl (by repeat (first | exact Res.nil | (apply Res.tmp; rfl) | (apply Res.cell; rfl; exact (by repeat (first | exact List.Mem.head _ | apply List.Mem.tail)); rfl; rfl))) rfl (fun W hW => ⟨by first | rfl | (simp; done) | (simp_all; done), hW.below⟩)
    rw [lnA_yes h0'] at hT2
    obtain ⟨p, hp⟩ : ∃ p, c.ps[i]? = some p := ⟨_, List.getElem?_eq_getElem (by omega)⟩
    have hpb := ascP_get hok.ascP hp
    have hpa : ∀ k : Int, pa (lenF l') c.ps 0 k = if k = p.bar then pa (lenF l) c.ps 0 k + by' else pa (lenF l) c.ps 0 k := pa_more hok.ascP hp hF
    have hpaN : ∀ k : Nat, pa (lenF l') c.ps 0 k = if k = p.bar.toNat then pa (lenF l) c.ps 0 k + by' else pa (lenF l) c.ps 0 k := fun k => by
      rw [hpa k]
      by_cases e : (k : Int) = p.bar
      · rw [if_pos e, if_pos (by omega)]
      · rw [if_neg e, if_neg (by omega)]
    have hN := Bt_more (tk := tk c.ts) hpaN c.n.toNat
    have hn1 := hok.n1
    have hn2 := hok.n2
    rw [if_pos (by omega)] at hN
    have hmv := moved hb1 hfine hpaN r1 j1 j2 j3
    have hbr := fun W (hA : (bare c).In W) hL => Locate_calls (bare c) (some ⟨bA, oA, none⟩) cap l t W ⟨hl.a, hl.b, Nat.zero_le _⟩ (by omega) hA hL ht
    rw [lcA_some (lgE_bare h0) hloc] at hbr
    have hNb := Bt_bd (ok_both hok h1) c.n.toNat (Nat.le_refl _)
    have hC2 := fun u W (hu : u ≤ 9223372036854775807) hA hL => Locate' c (some ⟨bm, 0, none⟩) capm l.length l' u W hlen' hl (by omega) hA hL hu
    have hbar := ans_bar (tk := tk c.ts) (pa := pa (lenF l) c.ps 0) j t
    have hm1 : Unit → p.bar < j → lcA c l' (t + by') = (ans (tk c.ts) (pa (lenF l) c.ps 0) j t, 0) := fun _ h => by
      rw [if_pos (by omega)] at hmv
      exact lcA_some h0' hmv
    have hm2 : Unit → ¬ p.bar < j → lcA c l' t = (ans (tk c.ts) (pa (lenF l) c.ps 0) j t, 0) := fun _ h => by
      rw [if_neg (by omega), Int.add_zero] at hmv
      exact lcA_some h0' hmv
    have hpsl : i < c.ps.length := (List.getElem?_eq_some_iff.1 hp).1
    have hpl := hok.lim.2.1
    clear hmv hpa hpaN hF hfine hloc h1 hok h0 h0'
    rw [hN] at hT2
    clear hN
    generalize ans (tk c.ts) (pa (lenF l) c.ps 0) j t = a at *
    generalize Bt (tk c.ts) (pa (lenF l) c.ps 0) c.n.toNat = N at *
    obtain ⟨a1, a2, a3⟩ := a
    simp only at hbar
    subst hbar
    clear j2 j3
    simp only [v2] at hT1 hT2
    simp only [v4] at hC hbr hC2
    obtain ⟨n, ts, ps, sp, A, B, C, ca, cb, cc⟩ := c
    have hBd : (bare ⟨n, ts, ps, sp, A, B, C, ca, cb, cc⟩).In w := ⟨hA.a, hA.b, at_nil _ _⟩
    have hB := hA.b
    dsimp only [Clk.v, bare] at *
    obtain ⟨b', o', rfl, hc⟩ := ext_at hB hp
    have he := ext_of hc
    unfold psE at he
    have hrow : ∀ {mem : List (Nat × Obj)}, (bm, Obj.cells ⟨ints l' ++ restm⟩ 3 (0, 0)) ∈ mem → ∀ W, SatW w (base w) noJ mem W → Kin.At W (some ⟨bm, 0, none⟩) 1 (l'.map inE) := fun hm W hW => hW.rows (b := bm) hm (rest := restm) (by rw [ints_rows]) (in_len _)
    by_cases hj : p.bar < j
    · have hq := hm1 () hj
      have hC2 := fun W hA hL => hC2 (t + by') W (by omega) hA hL
      rw [hq] at hC2
      clear hm1 hm2 hq hc
      cases a3 with
      | true =>
        repeat (first | refine l_val rfl rfl (by first | exact pureEval_ok rfl | exact v_load rfl (by repeat (first | exact List.Mem.head _ | apply List.Mem.tail)) rfl (by rfl) ) ?_ | refine l_nil ?_ | refine c_region ?_ | refine c_seq ?_ | refine x_then ?_ )
        refine r_call rfl rfl rfl (fun W hW => hC W (hA.sat hW) (hL.sat hW)) ?_
        repeat (first | refine l_val rfl rfl (by first | exact pureEval_ok rfl | exact v_load rfl (by repeat (first | exact List.Mem.head _ | apply List.Mem.tail)) rfl (by rfl) ) ?_ | refine l_nil ?_ | refine c_region ?_ | refine c_seq ?_ | refine x_then ?_ )
        refine r_call rfl rfl rfl (fun W hW => hT1 W (hA.sat hW) (hL.sat hW)) ?_
        repeat (first | refine l_val rfl rfl (by first | exact pureEval_ok rfl | exact v_load rfl (by repeat (first | exact List.Mem.head _ | apply List.Mem.tail)) rfl (by rfl) ) ?_ | refine l_nil ?_ | refine c_region ?_ | refine c_seq ?_ | refine x_then ?_ )
        refine r_call rfl rfl rfl (fun W hW => hT2 W (hA.sat hW) (hrow (by repeat (first | exact List.Mem.head _ | apply List.Mem.tail)) W hW)) ?_
        repeat (first | refine l_val rfl rfl (by first | exact pureEval_ok rfl | exact v_load rfl (by repeat (first | exact List.Mem.head _ | apply List.Mem.tail)) rfl (by rfl) ) ?_ | refine l_nil ?_ | refine c_region ?_ | refine c_seq ?_ | refine x_then ?_ | refine r_alloc rfl rfl rfl (by first | exact aggL ) (fun _ => ?_) | refine r_store rfl rfl rfl rfl rfl rfl rfl (by repeat (first | exact Upd.head | apply Upd.tail)) (by rfl) ?_ | refine c_false rfl ?_ | refine c_skip ?_ )
        refine r_call rfl rfl rfl (fun W hW => hbr W (hBd.sat hW) (hL.sat hW)) ?_
        repeat (first | refine l_val rfl rfl (by first | exact v_add rfl rfl (by omega) (by omega) | exact v_iconv rfl rfl rfl (by omega) (by omega) | exact pureEval_ok rfl | exact v_load rfl (by repeat (first | exact List.Mem.head _ | apply List.Mem.tail)) rfl (by rfl) | exact v_load_ext0 rfl (by assumption) rfl (by rfl) | exact v_index rfl rfl rfl rfl (by omega) (by omega) (by with_reducible first | exact idx4 _ _ _  ) ) ?_ | refine l_nil ?_ | refine c_region ?_ | refine c_seq ?_ | refine x_then ?_ | refine c_dec_t rfl (by first | omega ) ?_ | refine c_dec_f rfl (by first | omega ) ?_ | refine c_skip ?_ | refine l_dec_f rfl rfl rfl rfl rfl (by first | omega ) ?_ )
        refine r_call rfl rfl rfl (fun W hW => hC2 W (hA.sat hW) (hrow (by repeat (first | exact List.Mem.head _ | apply List.Mem.tail)) W hW)) ?_
        repeat (first | refine l_val rfl rfl (by first | exact pureEval_ok rfl ) ?_ | refine l_nil ?_ | refine c_region ?_ | refine c_seq ?_ | refine x_then ?_ | refine c_ret ?_ | refine l_dec_t rfl rfl rfl rfl rfl (by first | exact rfl ) ?_ )
        exact x_ret rfl rfl (by repeat (first | exact Res.nil | (apply Res.tmp; rfl) | (apply Res.cell; rfl; exact (by repeat (first | exact List.Mem.head _ | apply List.Mem.tail)); rfl; rfl))) rfl (fun W hW => ⟨by first | rfl | (simp; done) | (simp_all; done), hW.below⟩)
      | false =>
        repeat (first | refine l_val rfl rfl (by first | exact pureEval_ok rfl | exact v_load rfl (by repeat (first | exact List.Mem.head _ | apply List.Mem.tail)) rfl (by rfl) ) ?_ | refine l_nil ?_ | refine c_region ?_ | refine c_seq ?_ | refine x_then ?_ )
        refine r_call rfl rfl rfl (fun W hW => hC W (hA.sat hW) (hL.sat hW)) ?_
        repeat (first | refine l_val rfl rfl (by first | exact pureEval_ok rfl | exact v_load rfl (by repeat (first | exact List.Mem.head _ | apply List.Mem.tail)) rfl (by rfl) ) ?_ | refine l_nil ?_ | refine c_region ?_ | refine c_seq ?_ | refine x_then ?_ )
        refine r_call rfl rfl rfl (fun W hW => hT1 W (hA.sat hW) (hL.sat hW)) ?_
        repeat (first | refine l_val rfl rfl (by first | exact pureEval_ok rfl | exact v_load rfl (by repeat (first | exact List.Mem.head _ | apply List.Mem.tail)) rfl (by rfl) ) ?_ | refine l_nil ?_ | refine c_region ?_ | refine c_seq ?_ | refine x_then ?_ )
        refine r_call rfl rfl rfl (fun W hW => hT2 W (hA.sat hW) (hrow (by repeat (first | exact List.Mem.head _ | apply List.Mem.tail)) W hW)) ?_
        repeat (first | refine l_val rfl rfl (by first | exact pureEval_ok rfl | exact v_load rfl (by repeat (first | exact List.Mem.head _ | apply List.Mem.tail)) rfl (by rfl) ) ?_ | refine l_nil ?_ | refine c_region ?_ | refine c_seq ?_ | refine x_then ?_ | refine r_alloc rfl rfl rfl (by first | exact aggL ) (fun _ => ?_) | refine r_store rfl rfl rfl rfl rfl rfl rfl (by repeat (first | exact Upd.head | apply Upd.tail)) (by rfl) ?_ | refine c_false rfl ?_ | refine c_skip ?_ )
        refine r_call rfl rfl rfl (fun W hW => hbr W (hBd.sat hW) (hL.sat hW)) ?_
        repeat (first | refine l_val rfl rfl (by first | exact v_add rfl rfl (by omega) (by omega) | exact v_iconv rfl rfl rfl (by omega) (by omega) | exact pureEval_ok rfl | exact v_load rfl (by repeat (first | exact List.Mem.head _ | apply List.Mem.tail)) rfl (by rfl) | exact v_load_ext0 rfl (by assumption) rfl (by rfl) | exact v_index rfl rfl rfl rfl (by omega) (by omega) (by with_reducible first | exact idx4 _ _ _  ) ) ?_ | refine l_nil ?_ | refine c_region ?_ | refine c_seq ?_ | refine x_then ?_ | refine c_dec_t rfl (by first | omega ) ?_ | refine c_dec_f rfl (by first | omega ) ?_ | refine c_skip ?_ | refine l_dec_f rfl rfl rfl rfl rfl (by first | omega ) ?_ )
        refine r_call rfl rfl rfl (fun W hW => hC2 W (hA.sat hW) (hrow (by repeat (first | exact List.Mem.head _ | apply List.Mem.tail)) W hW)) ?_
        repeat (first | refine l_val rfl rfl (by first | exact pureEval_ok rfl ) ?_ | refine l_nil ?_ | refine c_region ?_ | refine c_seq ?_ | refine x_then ?_ | refine c_ret ?_ | refine l_dec_t rfl rfl rfl rfl rfl (by first | exact rfl ) ?_ )
        exact x_ret rfl rfl (by repeat (first | exact Res.nil | (apply Res.tmp; rfl) | (apply Res.cell; rfl; exact (by repeat (first | exact List.Mem.head _ | apply List.Mem.tail)); rfl; rfl))) rfl (fun W hW => ⟨by first | rfl | (simp; done) | (simp_all; done), hW.below⟩)
    · have hq := hm2 () hj
      have hC2 := fun W hA hL => hC2 t W ht hA hL
      rw [hq] at hC2
      clear hm1 hm2 hq hc
      cases a3 with
      | true =>
        repeat (first | refine l_val rfl rfl (by first | exact pureEval_ok rfl | exact v_load rfl (by repeat (first | exact List.Mem.head _ | apply List.Mem.tail)) rfl (by rfl) ) ?_ | refine l_nil ?_ | refine c_region ?_ | refine c_seq ?_ | refine x_then ?_ )
        refine r_call rfl rfl rfl (fun W hW => hC W (hA.sat hW) (hL.sat hW)) ?_
        repeat (first | refine l_val rfl rfl (by first | exact pureEval_ok rfl | exact v_load rfl (by repeat (first | exact List.Mem.head _ | apply List.Mem.tail)) rfl (by rfl) ) ?_ | refine l_nil ?_ | refine c_region ?_ | refine c_seq ?_ | refine x_then ?_ )
        refine r_call rfl rfl rfl (fun W hW => hT1 W (hA.sat hW) (hL.sat hW)) ?_
        repeat (first | refine l_val rfl rfl (by first | exact pureEval_ok rfl | exact v_load rfl (by repeat (first | exact List.Mem.head _ | apply List.Mem.tail)) rfl (by rfl) ) ?_ | refine l_nil ?_ | refine c_region ?_ | refine c_seq ?_ | refine x_then ?_ )
        refine r_call rfl rfl rfl (fun W hW => hT2 W (hA.sat hW) (hrow (by repeat (first | exact List.Mem.head _ | apply List.Mem.tail)) W hW)) ?_
        repeat (first | refine l_val rfl rfl (by first | exact pureEval_ok rfl | exact v_load rfl (by repeat (first | exact List.Mem.head _ | apply List.Mem.tail)) rfl (by rfl) ) ?_ | refine l_nil ?_ | refine c_region ?_ | refine c_seq ?_ | refine x_then ?_ | refine r_alloc rfl rfl rfl (by first | exact aggL ) (fun _ => ?_) | refine r_store rfl rfl rfl rfl rfl rfl rfl (by repeat (first | exact Upd.head | apply Upd.tail)) (by rfl) ?_ | refine c_false rfl ?_ | refine c_skip ?_ )
        refine r_call rfl rfl rfl (fun W hW => hbr W (hBd.sat hW) (hL.sat hW)) ?_
        repeat (first | refine l_val rfl rfl (by first | exact v_add rfl rfl (by omega) (by omega) | exact v_iconv rfl rfl rfl (by omega) (by omega) | exact pureEval_ok rfl | exact v_load rfl (by repeat (first | exact List.Mem.head _ | apply List.Mem.tail)) rfl (by rfl) | exact v_load_ext0 rfl (by assumption) rfl (by rfl) | exact v_index rfl rfl rfl rfl (by omega) (by omega) (by with_reducible first | exact idx4 _ _ _  ) ) ?_ | refine l_nil ?_ | refine c_region ?_ | refine c_seq ?_ | refine x_then ?_ | refine c_dec_f rfl (by first | omega ) ?_ | refine c_skip ?_ | refine l_dec_f rfl rfl rfl rfl rfl (by first | omega ) ?_ )
        refine r_call rfl rfl rfl (fun W hW => hC2 W (hA.sat hW) (hrow (by repeat (first | exact List.Mem.head _ | apply List.Mem.tail)) W hW)) ?_
        repeat (first | refine l_val rfl rfl (by first | exact pureEval_ok rfl ) ?_ | refine l_nil ?_ | refine c_region ?_ | refine c_seq ?_ | refine x_then ?_ | refine c_ret ?_ | refine l_dec_t rfl rfl rfl rfl rfl (by first | exact rfl ) ?_ )
        exact x_ret rfl rfl (by repeat (first | exact Res.nil | (apply Res.tmp; rfl) | (apply Res.cell; rfl; exact (by repeat (first | exact List.Mem.head _ | apply List.Mem.tail)); rfl; rfl))) rfl (fun W hW => ⟨by first | rfl | (simp; done) | (simp_all; done), hW.below⟩)
      | false =>
        repeat (first | refine l_val rfl rfl (by first | exact pureEval_ok rfl | exact v_load rfl (by repeat (first | exact List.Mem.head _ | apply List.Mem.tail)) rfl (by rfl) ) ?_ | refine l_nil ?_ | refine c_region ?_ | refine c_seq ?_ | refine x_then ?_ )
        refine r_call rfl rfl rfl (fun W hW => hC W (hA.sat hW) (hL.sat hW)) ?_
        repeat (first | refine l_val rfl rfl (by first | exact pureEval_ok rfl | exact v_load rfl (by repeat (first | exact List.Mem.head _ | apply List.Mem.tail)) rfl (by rfl) ) ?_ | refine l_nil ?_ | refine c_region ?_ | refine c_seq ?_ | refine x_then ?_ )
        refine r_call rfl rfl rfl (fun W hW => hT1 W (hA.sat hW) (hL.sat hW)) ?_
        repeat (first | refine l_val rfl rfl (by first | exact pureEval_ok rfl | exact v_load rfl (by repeat (first | exact List.Mem.head _ | apply List.Mem.tail)) rfl (by rfl) ) ?_ | refine l_nil ?_ | refine c_region ?_ | refine c_seq ?_ | refine x_then ?_ )
        refine r_call rfl rfl rfl (fun W hW => hT2 W (hA.sat hW) (hrow (by repeat (first | exact List.Mem.head _ | apply List.Mem.tail)) W hW)) ?_
        repeat (first | refine l_val rfl rfl (by first | exact pureEval_ok rfl | exact v_load rfl (by repeat (first | exact List.Mem.head _ | apply List.Mem.tail)) rfl (by rfl) ) ?_ | refine l_nil ?_ | refine c_region ?_ | refine c_seq ?_ | refine x_then ?_ | refine r_alloc rfl rfl rfl (by first | exact aggL ) (fun _ => ?_) | refine r_store rfl rfl rfl rfl rfl rfl rfl (by repeat (first | exact Upd.head | apply Upd.tail)) (by rfl) ?_ | refine c_false rfl ?_ | refine c_skip ?_ )
        refine r_call rfl rfl rfl (fun W hW => hbr W (hBd.sat hW) (hL.sat hW)) ?_
        repeat (first | refine l_val rfl rfl (by first | exact v_add rfl rfl (by omega) (by omega) | exact v_iconv rfl rfl rfl (by omega) (by omega) | exact pureEval_ok rfl | exact v_load rfl (by repeat (first | exact List.Mem.head _ | apply List.Mem.tail)) rfl (by rfl) | exact v_load_ext0 rfl (by assumption) rfl (by rfl) | exact v_index rfl rfl rfl rfl (by omega) (by omega) (by with_reducible first | exact idx4 _ _ _  ) ) ?_ | refine l_nil ?_ | refine c_region ?_ | refine c_seq ?_ | refine x_then ?_ | refine c_dec_f rfl (by first | omega ) ?_ | refine c_skip ?_ | refine l_dec_f rfl rfl rfl rfl rfl (by first | omega ) ?_ )
        refine r_call rfl rfl rfl (fun W hW => hC2 W (hA.sat hW) (hrow (by repeat (first | exact List.Mem.head _ | apply List.Mem.tail)) W hW)) ?_
        repeat (first | refine l_val rfl rfl (by first | exact pureEval_ok rfl ) ?_ | refine l_nil ?_ | refine c_region ?_ | refine c_seq ?_ | refine x_then ?_ | refine c_ret ?_ | refine l_dec_t rfl rfl rfl rfl rfl (by first | exact rfl ) ?_ )
        exact x_ret rfl rfl (by repeat (first | exact Res.nil | (apply Res.tmp; rfl) | (apply Res.cell; rfl; exact (by repeat (first | exact List.Mem.head _ | apply List.Mem.tail)); rfl; rfl))) rfl (fun W hW => ⟨by first | rfl | (simp; done) | (simp_all; done), hW.below⟩)
end R13
end Go.Proofs
