/- Clocks: Ticks, Begin, Length, Locate, in the program. -/
import Derived.Test.YtjagcijgfmclhaaTpE
import Derived.Test.YtjagcijgfmclhaaTpQ
set_option linter.unusedSectionVars false
set_option linter.unusedVariables false
set_option linter.unusedSimpArgs false
namespace Go.Proofs
open Go.RowKit Go.Kin Go.Kin.Tm
namespace R13
def Clk.k (c : Clk) : Int := chk c.n c.ts c.ps c.sp
/-- few enough for the walks -/
structure Clk.Sm (c : Clk) : Prop where
  a : c.ts.length ≤ 5000
  b : c.ps.length ≤ 5000
  c : c.sp.length ≤ 5000
theorem check_k (c : Clk) (w : World) (hl : c.Sm) (hA : c.In w) : Calls Try.prog 16 ⟨[.agg ⟨c.v⟩]⟩ w fun e w' => e = .returned (.int .i64 c.k) ∧ Below w.heap.size w w' := check_calls c w hl.a hl.b hl.c hA
theorem ok_head {n : Int} {ts : List Tp} {ps : List Ps} {sp : List Sp} (h : Ok n ts ps sp) : head0 ts = true := by
  obtain ⟨t, e1, e2⟩ := h.t0
  cases ts with
  | nil => cases e1
  | cons t l => cases e1; exact decide_eq_true e2
/-- what Ticks answers -/
def tkA (c : Clk) (bar : Int) : Int × Int := if c.k ≠ 0 then (0, c.k) else if 0 ≤ bar ∧ bar ≤ c.n - 1 then (tk c.ts bar, 0) else (0, 1)
def v2 (p : Int × Int) : Value := .tuple ⟨[.int .i64 p.1, .int .i64 p.2]⟩
theorem tkA_no {c : Clk} {bar : Int} (h : c.k ≠ 0) : tkA c bar = (0, c.k) := if_pos h
theorem tkA_in {c : Clk} {bar : Int} (h : c.k = 0) (h2 : 0 ≤ bar ∧ bar ≤ c.n - 1) : tkA c bar = (tk c.ts bar, 0) := by unfold tkA; rw [if_neg (by simp [h]), if_pos h2]
theorem tkA_out {c : Clk} {bar : Int} (h : c.k = 0) (h2 : ¬ (0 ≤ bar ∧ bar ≤ c.n - 1)) : tkA c bar = (0, 1) := by unfold tkA; rw [if_neg (by simp [h]), if_neg h2]

set_option maxRecDepth 100000 in
set_option maxHeartbeats 4000000 in
theorem Ticks_calls (c : Clk) (bar : Int) (w : World) (hl : c.Sm) (hA : c.In w) :
    Calls Try.prog 12 ⟨[.agg ⟨c.v⟩, .int .i64 bar]⟩ w fun e w' => e = .returned (v2 (tkA c bar)) ∧ Below w.heap.size w w' := by
  refine fun_enter Try.func12 rfl Try.ntmps12 rfl rfl (satW_nil w) ?_
  repeat (first | refine l_val rfl rfl (by first | exact pureEval_ok rfl | exact v_load rfl (by repeat (first | exact List.Mem.head _ | apply List.Mem.tail)) rfl (by rfl) ) ?_ | refine l_nil ?_ | refine c_region ?_ | refine c_seq ?_ | refine x_then ?_ | refine r_box rfl rfl rfl rfl (fun _ => ?_) )
  refine r_call rfl rfl rfl (fun W hW => check_k c W hl (hA.sat hW)) ?_
  by_cases h0 : c.k = 0
  · have hok := chk_ok.1 h0
    have hn1 := hok.n1
    have hn2 := hok.n2
    by_cases hb : 0 ≤ bar ∧ bar ≤ c.n - 1
    · have hb' := hb
      obtain ⟨hb1, hb2⟩ := hb'
      repeat (first | refine l_val rfl rfl (by first | exact v_sub rfl rfl (by omega) (by omega) | exact pureEval_ok rfl | exact v_load rfl (by repeat (first | exact List.Mem.head _ | apply List.Mem.tail)) rfl (by rfl) ) ?_ | refine l_nil ?_ | refine c_region ?_ | refine c_seq ?_ | refine x_then ?_ | refine c_dec_f rfl (by first | omega | exact fun h => h rfl ) ?_ | refine c_skip ?_ | refine c_not_f rfl (by first | omega ) ?_ | (refine r_call rfl rfl rfl (fun W hW => in_calls _ _ _ W) ?_) )
      refine r_call rfl rfl rfl (fun W hW => ticks_calls c bar W hl.a hn2 (ok_head hok) hok.asc hb1 (by omega) (hA.sat hW)) ?_
      repeat (first | refine l_val rfl rfl (by first | exact pureEval_ok rfl ) ?_ | refine l_nil ?_ | refine x_then ?_ | refine c_ret ?_ )
      exact x_ret rfl rfl (by repeat (first | exact Res.nil | (apply Res.tmp; rfl) | (apply Res.cell; rfl; exact (by repeat (first | exact List.Mem.head _ | apply List.Mem.tail)); rfl; rfl))) rfl (fun W hW => ⟨by rw [tkA_in h0 hb]; rfl, hW.below⟩)
    · repeat (first | refine l_val rfl rfl (by first | exact v_sub rfl rfl (by omega) (by omega) | exact pureEval_ok rfl | exact v_load rfl (by repeat (first | exact List.Mem.head _ | apply List.Mem.tail)) rfl (by rfl) ) ?_ | refine l_nil ?_ | refine c_region ?_ | refine c_seq ?_ | refine x_then ?_ | refine c_dec_f rfl (by first | omega ) ?_ | refine c_skip ?_ | refine c_ret ?_ | refine x_then_ret ?_ | refine c_not_t rfl (by first | omega ) ?_ | (refine r_call rfl rfl rfl (fun W hW => in_calls _ _ _ W) ?_) )
      exact x_ret rfl rfl (by repeat (first | exact Res.nil | (apply Res.tmp; rfl) | (apply Res.cell; rfl; exact (by repeat (first | exact List.Mem.head _ | apply List.Mem.tail)); rfl; rfl))) rfl (fun W hW => ⟨by rw [tkA_out h0 hb]; rfl, hW.below⟩)
  · repeat (first | refine l_val rfl rfl (by first | exact pureEval_ok rfl ) ?_ | refine l_nil ?_ | refine c_region ?_ | refine c_seq ?_ | refine x_then ?_ | refine c_dec_t rfl (by first | omega ) ?_ | refine c_ret ?_ | refine x_then_ret ?_ )
    exact x_ret rfl rfl (by repeat (first | exact Res.nil | (apply Res.tmp; rfl) | (apply Res.cell; rfl; exact (by repeat (first | exact List.Mem.head _ | apply List.Mem.tail)); rfl; rfl))) rfl (fun W hW => ⟨by rw [tkA_no h0]; rfl, hW.below⟩)

/-- what Begin answers -/
def bgA (c : Clk) (bar : Int) : (Int × Int) × Int :=
  if c.k ≠ 0 then ((0, 0), c.k) else if 0 ≤ bar ∧ bar ≤ c.n then ((Bt (tk c.ts) (pa (loF c.ps) c.ps 0) bar.toNat, Bt (tk c.ts) (pa (hiF c.ps) c.ps 0) bar.toNat), 0) else ((0, 0), 1)
def vB (p : (Int × Int) × Int) : Value := .tuple ⟨[.agg ⟨[.int .i64 p.1.1, .int .i64 p.1.2]⟩, .int .i64 p.2]⟩
theorem bgA_no {c : Clk} {bar : Int} (h : c.k ≠ 0) : bgA c bar = ((0, 0), c.k) := if_pos h
theorem bgA_in {c : Clk} {bar : Int} (h : c.k = 0) (h2 : 0 ≤ bar ∧ bar ≤ c.n) : bgA c bar = ((Bt (tk c.ts) (pa (loF c.ps) c.ps 0) bar.toNat, Bt (tk c.ts) (pa (hiF c.ps) c.ps 0) bar.toNat), 0) := by unfold bgA; rw [if_neg (by simp [h]), if_pos h2]
theorem bgA_out {c : Clk} {bar : Int} (h : c.k = 0) (h2 : ¬ (0 ≤ bar ∧ bar ≤ c.n)) : bgA c bar = ((0, 0), 1) := by unfold bgA; rw [if_neg (by simp [h]), if_neg h2]
theorem lo_bd {n : Int} {ts : List Tp} {ps : List Ps} {sp : List Sp} (h : Ok n ts ps sp) (i : Nat) (hi : i < ps.length) : (0 ≤ loF ps i ∧ loF ps i ≤ 1048576) ∧ (0 ≤ hiF ps i ∧ hiF ps i ≤ 1048576) := by
  obtain ⟨p, hp⟩ : ∃ p, ps[i]? = some p := ⟨_, List.getElem?_eq_getElem hi⟩
  have := ascP_get h.ascP hp
  unfold loF hiF
  rw [getD_of hp]
  omega

set_option maxRecDepth 100000 in
set_option maxHeartbeats 4000000 in
theorem Begin_calls (c : Clk) (bar : Int) (w : World) (hl : c.Sm) (hA : c.In w) :
    Calls Try.prog 14 ⟨[.agg ⟨c.v⟩, .int .i64 bar]⟩ w fun e w' => e = .returned (vB (bgA c bar)) ∧ Below w.heap.size w w' := by
  refine fun_enter Try.func14 rfl Try.ntmps14 rfl rfl (satW_nil w) ?_
  repeat (first | refine l_val rfl rfl (by first | exact pureEval_ok rfl | exact v_load rfl (by repeat (first | exact List.Mem.head _ | apply List.Mem.tail)) rfl (by rfl) ) ?_ | refine l_nil ?_ | refine c_region ?_ | refine c_seq ?_ | refine x_then ?_ | refine r_box rfl rfl rfl rfl (fun _ => ?_) | refine r_alloc rfl rfl rfl (by first | exact aggL ) (fun _ => ?_) )
  rename_i b2 b4
  refine r_call rfl rfl rfl (fun W hW => check_k c W hl (hA.sat hW)) ?_
  by_cases h0 : c.k = 0
  · have hok := chk_ok.1 h0
    have hn1 := hok.n1
    have hn2 := hok.n2
    by_cases hb : 0 ≤ bar ∧ bar ≤ c.n
    · have hb' := hb
      obtain ⟨hb1, hb2⟩ := hb'
      have hl2 := hl.b
      repeat (first | refine l_val rfl rfl (by first | exact pureEval_ok rfl | exact v_load rfl (by repeat (first | exact List.Mem.head _ | apply List.Mem.tail)) rfl (by rfl) ) ?_ | refine l_nil ?_ | refine c_region ?_ | refine c_seq ?_ | refine x_then ?_ | refine c_dec_f rfl (by first | omega | exact fun h => h rfl ) ?_ | refine c_skip ?_ | refine c_not_f rfl (by first | omega ) ?_ | (refine r_call rfl rfl rfl (fun W hW => in_calls _ _ _ W) ?_) )
      refine r_call rfl rfl rfl (fun W hW => begin_calls c bar (loF c.ps) 32 [.pointer (some ⟨b2, 0, none⟩)] W hok (hA.sat hW) (fun i hi => (lo_bd hok i hi).1) (fun i hi W2 hW2 =>
        lo_calls c b2 i W2 ((hW2.block _ (hW.lt (p := (b2, _)) (by repeat (first | exact List.Mem.head _ | apply List.Mem.tail)))).trans (hW.own (b2, _) (by repeat (first | exact List.Mem.head _ | apply List.Mem.tail))).2) hi hl2 ((hA.sat hW).later hW2)) hb1 hb2) ?_
      repeat (first | refine l_val rfl rfl (by first | exact pureEval_ok rfl | exact v_load rfl (by repeat (first | exact List.Mem.head _ | apply List.Mem.tail)) rfl (by rfl) ) ?_ | refine l_nil ?_ | refine c_region ?_ | refine c_seq ?_ | refine x_then ?_ | refine r_store rfl rfl rfl rfl rfl rfl rfl (by repeat (first | exact Upd.head | apply Upd.tail)) (by rfl) ?_ )
      refine r_call rfl rfl rfl (fun W hW => begin_calls c bar (hiF c.ps) 33 [.pointer (some ⟨b2, 0, none⟩)] W hok (hA.sat hW) (fun i hi => (lo_bd hok i hi).2) (fun i hi W2 hW2 =>
        hi_calls c b2 i W2 ((hW2.block _ (hW.lt (p := (b2, _)) (by repeat (first | exact List.Mem.head _ | apply List.Mem.tail)))).trans (hW.own (b2, _) (by repeat (first | exact List.Mem.head _ | apply List.Mem.tail))).2) hi hl2 ((hA.sat hW).later hW2)) hb1 hb2) ?_
      repeat (first | refine l_val rfl rfl (by first | exact pureEval_ok rfl | exact v_load rfl (by repeat (first | exact List.Mem.head _ | apply List.Mem.tail)) rfl (by rfl) ) ?_ | refine l_nil ?_ | refine c_region ?_ | refine c_seq ?_ | refine x_then ?_ | refine r_store rfl rfl rfl rfl rfl rfl rfl (by repeat (first | exact Upd.head | apply Upd.tail)) (by rfl) ?_ | refine c_ret ?_ )
      exact x_ret rfl rfl (by repeat (first | exact Res.nil | (apply Res.tmp; rfl) | (apply Res.cell; rfl; exact (by repeat (first | exact List.Mem.head _ | apply List.Mem.tail)); rfl; rfl))) rfl (fun W hW => ⟨by rw [bgA_in h0 hb]; rfl, hW.below⟩)
    · repeat (first | refine l_val rfl rfl (by first | exact pureEval_ok rfl | exact v_load rfl (by repeat (first | exact List.Mem.head _ | apply List.Mem.tail)) rfl (by rfl) ) ?_ | refine l_nil ?_ | refine c_region ?_ | refine c_seq ?_ | refine x_then ?_ | refine r_store rfl rfl rfl rfl rfl rfl rfl (by repeat (first | exact Upd.head | apply Upd.tail)) (by rfl) ?_ | refine c_dec_f rfl (by first | omega ) ?_ | refine c_skip ?_ | refine c_ret ?_ | refine x_then_ret ?_ | refine c_not_t rfl (by first | omega ) ?_ | (refine r_call rfl rfl rfl (fun W hW => in_calls _ _ _ W) ?_) )
      exact x_ret rfl rfl (by repeat (first | exact Res.nil | (apply Res.tmp; rfl) | (apply Res.cell; rfl; exact (by repeat (first | exact List.Mem.head _ | apply List.Mem.tail)); rfl; rfl))) rfl (fun W hW => ⟨by rw [bgA_out h0 hb]; rfl, hW.below⟩)
  · repeat (first | refine l_val rfl rfl (by first | exact pureEval_ok rfl | exact v_load rfl (by repeat (first | exact List.Mem.head _ | apply List.Mem.tail)) rfl (by rfl) ) ?_ | refine l_nil ?_ | refine c_region ?_ | refine c_seq ?_ | refine x_then ?_ | refine r_store rfl rfl rfl rfl rfl rfl rfl (by repeat (first | exact Upd.head | apply Upd.tail)) (by rfl) ?_ | refine c_dec_t rfl (by first | omega ) ?_ | refine c_ret ?_ | refine x_then_ret ?_ )
    exact x_ret rfl rfl (by repeat (first | exact Res.nil | (apply Res.tmp; rfl) | (apply Res.cell; rfl; exact (by repeat (first | exact List.Mem.head _ | apply List.Mem.tail)); rfl; rfl))) rfl (fun W hW => ⟨by rw [bgA_no h0]; rfl, hW.below⟩)

/-- whether lengths are lengths of the pauses -/
def lgE (c : Clk) (l : List Int) : Int := if c.k ≠ 0 then c.k else if lensB c.ps l = true then 0 else 1
theorem lgE_no {c : Clk} {l : List Int} (h : c.k ≠ 0) : lgE c l = c.k := if_pos h
theorem lgE_yes {c : Clk} {l : List Int} (h : c.k = 0) (h2 : lensB c.ps l = true) : lgE c l = 0 := by unfold lgE; rw [if_neg (by simp [h]), if_pos h2]
theorem lgE_bad {c : Clk} {l : List Int} (h : c.k = 0) (h2 : ¬ lensB c.ps l = true) : lgE c l = 1 := by unfold lgE; rw [if_neg (by simp [h]), if_neg h2]
theorem lgE_0 {c : Clk} {l : List Int} (h : lgE c l = 0) : Ok c.n c.ts c.ps c.sp ∧ lensB c.ps l = true := by
  by_cases h0 : c.k = 0
  · by_cases h1 : lensB c.ps l = true
    · exact ⟨chk_ok.1 h0, h1⟩
    · rw [lgE_bad h0 h1] at h; cases h
  · rw [lgE_no h0] at h; exact absurd h h0

set_option maxRecDepth 100000 in
set_option maxHeartbeats 4000000 in
theorem lengths_calls (c : Clk) (L : Option Addr) (cap : Nat) (l : List Int) (w : World) (hl : c.Sm) (hl2 : l.length ≤ 5000) (hA : c.In w) (hL : Kin.At w L 1 (l.map inE)) :
    Calls Try.prog 39 ⟨[.agg ⟨c.v⟩, .slice L l.length cap]⟩ w fun e w' => e = .returned (.int .i64 (lgE c l)) ∧ Below w.heap.size w w' := by
  refine fun_enter Try.func39 rfl Try.ntmps39 rfl rfl (satW_nil w) ?_
  repeat (first | refine l_val rfl rfl (by first | exact pureEval_ok rfl | exact v_load rfl (by repeat (first | exact List.Mem.head _ | apply List.Mem.tail)) rfl (by rfl) ) ?_ | refine l_nil ?_ | refine c_region ?_ | refine c_seq ?_ | refine x_then ?_ | refine r_box rfl rfl rfl rfl (fun _ => ?_) )
  rename_i b2
  refine r_call rfl rfl rfl (fun W hW => check_k c W hl (hA.sat hW)) ?_
  by_cases h0 : c.k = 0
  rotate_left
  · repeat (first | refine l_val rfl rfl (by first | exact pureEval_ok rfl ) ?_ | refine l_nil ?_ | refine c_region ?_ | refine c_seq ?_ | refine x_then ?_ | refine c_dec_t rfl (by first | omega ) ?_ | refine c_ret ?_ | refine x_then_ret ?_ )
    exact x_ret rfl rfl (by repeat (first | exact Res.nil | (apply Res.tmp; rfl) | (apply Res.cell; rfl; exact (by repeat (first | exact List.Mem.head _ | apply List.Mem.tail)); rfl; rfl))) rfl (fun W hW => ⟨by rw [lgE_no h0], hW.below⟩)
  obtain ⟨E, hE⟩ : ∃ E, lgE c l = E := ⟨_, rfl⟩
  have hyes : lensB c.ps l = true → E = 0 := fun h => by rw [← hE, lgE_yes h0 h]
  have hno : ¬ lensB c.ps l = true → E = 1 := fun h => by rw [← hE, lgE_bad h0 h]
  rw [hE]
  have hk0 : c.k = 0 := h0
  clear hE
  obtain ⟨hl1, hl3, hl4⟩ := hl
  obtain ⟨n, ts, ps, sp, A, B, C, ca, cb, cc⟩ := c
  have hB := hA.b
  clear hA
  dsimp only [Clk.v] at *
  by_cases hlen : l.length = ps.length
  rotate_left
  · have he := hno fun h => hlen (lensB_iff.1 h).1
    clear hyes hno
    repeat (first | refine l_val rfl rfl (by first | exact pureEval_ok rfl | exact v_load rfl (by repeat (first | exact List.Mem.head _ | apply List.Mem.tail)) rfl (by rfl) ) ?_ | refine l_nil ?_ | refine c_region ?_ | refine c_seq ?_ | refine x_then ?_ | refine c_dec_t rfl (by first | omega ) ?_ | refine c_dec_f rfl (by first | omega ) ?_ | refine c_skip ?_ | refine c_ret ?_ | refine x_then_ret ?_ )
    exact x_ret rfl rfl (by repeat (first | exact Res.nil | (apply Res.tmp; rfl) | (apply Res.cell; rfl; exact (by repeat (first | exact List.Mem.head _ | apply List.Mem.tail)); rfl; rfl))) rfl (fun W hW => ⟨by rw [he], hW.below⟩)
  have hyes' : Unit → lensB ps l = true → E = 0 := fun _ => hyes
  have hno' : Unit → ¬ lensB ps l = true → E = 1 := fun _ => hno
  clear hyes hno
  repeat (first | refine l_val rfl rfl (by first | exact pureEval_ok rfl | exact v_load rfl (by repeat (first | exact List.Mem.head _ | apply List.Mem.tail)) rfl (by rfl) ) ?_ | refine l_nil ?_ | refine c_region ?_ | refine c_seq ?_ | refine x_then ?_ | refine c_dec_f rfl (by first | omega | exact fun h => h rfl ) ?_ | refine c_block ?_ | refine c_skip ?_ )
  refine c_loop (ι := Nat) (fun k => k ≤ ps.length ∧ ∀ (i : Nat) (p : Ps) (x : Int), i < k → ps[i]? = some p → l[i]? = some x → p.lo ≤ x ∧ x ≤ p.hi) (fun k => [(1, .slice L l.length cap), (2, .pointer (some ⟨b2, 0, none⟩)), (19, .slice B ps.length cb), (20, .int .i64 ps.length), (21, .int .i64 k)])
    (fun _ => [(b2, .cells ⟨[.int .i64 n, .slice A ts.length ca, .slice B ps.length cb, .slice C sp.length cc]⟩ 26 (0, 0))]) (fun k => ps.length - k) 0 ⟨by omega, fun i p x h => by omega⟩ (by repeat (first | exact EnvSub.nil | refine EnvSub.cons rfl (by first | rfl | (congr 1; done) | (exact congrArg (Value.int _) (by omega)) | (simp; done)) ?_)) (by repeat (first | exact MSub.nil | refine MSub.keep (by first | rfl | assumption) ?_ | refine MSub.drop ?_ | exact MSub.refl _)) ?_
  rintro k ⟨i1, i2⟩
  by_cases hlt : k < ps.length
  · obtain ⟨t, ht⟩ : ∃ t, ps[k]? = some t := ⟨_, List.getElem?_eq_getElem hlt⟩
    obtain ⟨x, hx⟩ : ∃ x, l[k]? = some x := ⟨_, List.getElem?_eq_getElem (by omega)⟩
    obtain ⟨b', o', rfl, hc⟩ := ext_at hB ht
    obtain ⟨b3, o3, rfl, hc3⟩ := ext_at hL hx
    have he := ext_of hc
    have he3 := ext_of hc3
    rw [Nat.mul_one] at he3
    unfold psE at he
    by_cases hg : t.lo ≤ x ∧ x ≤ t.hi
    · have i2' : Unit → ∀ (i : Nat) (p : Ps) (x : Int), i < k → ps[i]? = some p → l[i]? = some x → p.lo ≤ x ∧ x ≤ p.hi := fun _ => i2
      clear i2
      repeat (first | refine l_val rfl rfl (by first | exact v_add rfl rfl (by omega) (by omega) | exact pureEval_ok rfl | exact v_load_ext0 rfl (by assumption) rfl (by rfl) | exact v_index rfl rfl rfl rfl (by omega) (by omega) (by with_reducible first | exact idx4 _ _ _  ) ) ?_ | refine l_nil ?_ | refine c_region ?_ | refine c_seq ?_ | refine x_then ?_ | refine r_alloc rfl rfl rfl (by first | exact aggL ) (fun _ => ?_) | refine r_store rfl rfl rfl rfl rfl rfl rfl (by repeat (first | exact Upd.head | apply Upd.tail)) (by rfl) ?_ | refine c_dec_t rfl (by first | omega ) ?_ | refine c_block ?_ | refine c_skip ?_ | refine x_block ?_ | refine c_reads rfl (by decide +kernel) ?_ | refine q_val rfl rfl (by first | exact pureEval_ok rfl | exact v_load rfl (by repeat (first | exact List.Mem.head _ | apply List.Mem.tail)) rfl (by rfl) | exact v_load_ext0 rfl (by assumption) rfl (by rfl) | exact v_index rfl rfl rfl rfl (by omega) (by omega) (by with_reducible first | exact idx2 _ _  ) ) ?_ | refine q_nil ?_ | refine c_not_f rfl (by first | omega ) ?_ | (refine q_call rfl rfl rfl (fun W hW => in_calls _ _ _ W) ?_) )
      refine x_back (k + 1) ⟨hlt, fun i p y h1 h2 h3 => ?_⟩ (by omega) (by repeat (first | exact EnvSub.nil | refine EnvSub.cons rfl (by first | rfl | (congr 1; done) | (exact congrArg (Value.int _) (by omega)) | (simp; done)) ?_)) (by repeat (first | exact MSub.nil | refine MSub.keep (by first | rfl | assumption) ?_ | refine MSub.drop ?_ | exact MSub.refl _))
      by_cases hik : i = k
      · subst hik; rw [ht] at h2; rw [hx] at h3; cases h2; cases h3; exact hg
      · exact i2' () i p y (by omega) h2 h3
    · have hE := hno' () fun h => hg ((lensB_iff.1 h).2 k t x ht hx)
      clear i2
      repeat (first | refine l_val rfl rfl (by first | exact pureEval_ok rfl | exact v_load_ext0 rfl (by assumption) rfl (by rfl) | exact v_index rfl rfl rfl rfl (by omega) (by omega) (by with_reducible first | exact idx4 _ _ _  ) ) ?_ | refine l_nil ?_ | refine c_region ?_ | refine c_seq ?_ | refine x_then ?_ | refine r_alloc rfl rfl rfl (by first | exact aggL ) (fun _ => ?_) | refine r_store rfl rfl rfl rfl rfl rfl rfl (by repeat (first | exact Upd.head | apply Upd.tail)) (by rfl) ?_ | refine c_dec_t rfl (by first | omega ) ?_ | refine c_block ?_ | refine c_skip ?_ | refine c_ret ?_ | refine x_then_ret ?_ | refine x_block_ret ?_ | refine c_reads rfl (by decide +kernel) ?_ | refine q_val rfl rfl (by first | exact pureEval_ok rfl | exact v_load rfl (by repeat (first | exact List.Mem.head _ | apply List.Mem.tail)) rfl (by rfl) | exact v_load_ext0 rfl (by assumption) rfl (by rfl) | exact v_index rfl rfl rfl rfl (by omega) (by omega) (by with_reducible first | exact idx2 _ _  ) ) ?_ | refine q_nil ?_ | refine c_not_t rfl (by first | omega ) ?_ | (refine q_call rfl rfl rfl (fun W hW => in_calls _ _ _ W) ?_) )
      exact x_ret rfl rfl (by repeat (first | exact Res.nil | (apply Res.tmp; rfl) | (apply Res.cell; rfl; exact (by repeat (first | exact List.Mem.head _ | apply List.Mem.tail)); rfl; rfl))) rfl (fun W hW => ⟨by rw [hE], hW.below⟩)
  have hk : k = ps.length := by omega
  subst hk
  have hE := hyes' () (lensB_iff.2 ⟨hlen, fun i p x h1 h2 => i2 i p x (List.getElem?_eq_some_iff.1 h1).1 h1 h2⟩)
  clear i2
  repeat (first | refine l_val rfl rfl (by first | exact pureEval_ok rfl ) ?_ | refine l_nil ?_ | refine c_region ?_ | refine c_seq ?_ | refine x_then ?_ | refine c_dec_f rfl (by first | omega ) ?_ | refine c_ret ?_ | refine c_exit ?_ | refine x_then_exit ?_ | refine x_block_same ?_ )
  exact x_ret rfl rfl (by repeat (first | exact Res.nil | (apply Res.tmp; rfl) | (apply Res.cell; rfl; exact (by repeat (first | exact List.Mem.head _ | apply List.Mem.tail)); rfl; rfl))) rfl (fun W hW => ⟨by rw [hE], hW.below⟩)
end R13
end Go.Proofs
