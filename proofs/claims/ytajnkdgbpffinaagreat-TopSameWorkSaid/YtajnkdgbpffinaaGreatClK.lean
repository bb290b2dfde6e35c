/- Collating: signs in form, readings. Printed by gen_form.py. -/
import Derived.Test.YtajnkdgbpffinaaGreatRtDiv
import Derived.Test.YtajnkdgbpffinaaGreatRtCk
set_option maxRecDepth 100000
set_option maxHeartbeats 400000000
set_option linter.unusedSectionVars false
set_option linter.unusedVariables false
set_option linter.unusedSimpArgs false
namespace Go.Proofs
open Go.RowKit Go.Kin Go.Kin.Cl
namespace R41
def cmpI (x y : Int) : Int := if x < y then -1 else if y < x then 1 else 0
theorem isNaN_calls (x : Int) (w : World) : Calls Tryz.prog 92 ⟨[.int .i64 x]⟩ w fun e w' => e = .returned (.bool false) /\ Under w.heap.size w w' := by
 refine fEn Tryz.func92 rfl Tryz.ntmps92 rfl rfl (sWn w) ?_
 repeat (first|refine lVa rfl rfl (by first|exact pEv rfl|fail) ?_|refine lNi ?_|refine cRg ?_|refine cSq ?_|refine xTh ?_|refine c_ret ?_|fail)
 exact x_ret rfl rfl (by repeat constructor) rfl (fun W hW => ⟨by first|rfl|(simp; done), hW.below⟩)
theorem compare_calls (x y : Int) (w : World) : Calls Tryz.prog 63 ⟨[.int .i64 x, .int .i64 y]⟩ w fun e w' => e = .returned (.int .i64 (cmpI x y)) /\ Under w.heap.size w w' := by
 refine fEn Tryz.func63 rfl Tryz.ntmps63 rfl rfl (sWn w) ?_
 by_cases h1 : x < y
 ·have hv : cmpI x y = -1 := by unfold cmpI; rw [if_pos h1]
  repeat (first|refine lVa rfl rfl (by first|exact pEv rfl|fail) ?_|refine lNi ?_|refine cRg ?_|refine cSq ?_|refine xTh ?_|refine c_false rfl ?_|refine c_dec_t rfl (by first|omega|fail) ?_|refine cSk ?_|refine c_ret ?_|refine xTr ?_|(refine r_call rfl rfl rfl (fun W hW => isNaN_calls _ W) ?_)|fail)
  exact x_ret rfl rfl (by repeat constructor) rfl (fun W hW => ⟨by rw [hv], hW.below⟩)
 by_cases h2 : y < x
 ·have hv : cmpI x y = 1 := by unfold cmpI; rw [if_neg h1, if_pos h2]
  repeat (first|refine lVa rfl rfl (by first|exact pEv rfl|fail) ?_|refine lNi ?_|refine cRg ?_|refine cSq ?_|refine xTh ?_|refine c_false rfl ?_|refine c_dec_t rfl (by first|omega|fail) ?_|refine c_dec_f rfl (by first|omega|fail) ?_|refine cSk ?_|refine c_ret ?_|refine xTr ?_|(refine r_call rfl rfl rfl (fun W hW => isNaN_calls _ W) ?_)|fail)
  exact x_ret rfl rfl (by repeat constructor) rfl (fun W hW => ⟨by rw [hv], hW.below⟩)
 have hv : cmpI x y = 0 := by unfold cmpI; rw [if_neg h1, if_neg h2]
 repeat (first|refine lVa rfl rfl (by first|exact pEv rfl|fail) ?_|refine lNi ?_|refine cRg ?_|refine cSq ?_|refine xTh ?_|refine c_false rfl ?_|refine c_dec_f rfl (by first|omega|fail) ?_|refine cSk ?_|refine c_ret ?_|(refine r_call rfl rfl rfl (fun W hW => isNaN_calls _ W) ?_)|fail)
 exact x_ret rfl rfl (by repeat constructor) rfl (fun W hW => ⟨by rw [hv], hW.below⟩)
def I64 (n : Int) : Prop := -9223372036854775808 <= n /\ n <= 9223372036854775807
/-- two ratios are valid -/
def okQ (n d m k : Int) : Bool := R12.okB n d && R12.okB m k
def cmpA (n d m k : Int) : Int × Int := if okQ n d m k = true then (cmpI (n * k) (m * d), 0) else (0, 120)
theorem chk_t {n d : Int} (h : R12.okB n d = true) : R12.chkE n d = 0 := by simp [R12.chkE, h]
theorem chk_f {n d : Int} (h : R12.okB n d = false) : R12.chkE n d = 120 := by simp [R12.chkE, h]
theorem okQ_bd {n d m k : Int} (h : okQ n d m k = true) : (-1152921504606846976 <= n * k /\ n * k <= 1152921504606846976) /\ (-1152921504606846976 <= m * d /\ m * d <= 1152921504606846976) := by
 unfold okQ at h
 rw [Bool.and_eq_true] at h
 obtain ⟨a1, a2, a3, a4, -⟩ := R12.okB_iff.1 h.1
 obtain ⟨b1, b2, b3, b4, -⟩ := R12.okB_iff.1 h.2
 exact ⟨R12.mul30 a3 a4 (by omega) b2, R12.mul30 b3 b4 (by omega) a2⟩
theorem Cmp_calls (n d m k : Int) (w : World) (hn : I64 n) (hd : I64 d) (hm : I64 m) (hk : I64 k) :
  Calls Tryz.prog 48 ⟨[.agg ⟨[.int .i64 n, .int .i64 d]⟩, .agg ⟨[.int .i64 m, .int .i64 k]⟩]⟩ w fun e w' => e = .returned (v2 (cmpA n d m k)) /\ Under w.heap.size w w' := by
 obtain ⟨a1, a2⟩ := hn; obtain ⟨a3, a4⟩ := hd; obtain ⟨a5, a6⟩ := hm; obtain ⟨a7, a8⟩ := hk
 refine fEn Tryz.func48 rfl Tryz.ntmps48 rfl rfl (sWn w) ?_
 cases h1 : R12.okB n d with
 | false =>
  have hv : cmpA n d m k = (0, 120) := if_neg (by simp [okQ, h1])
  repeat (first|refine lVa rfl rfl (by first|exact pEv rfl|exact vLd rfl (by repeat constructor) rfl (by rfl)|fail) ?_|refine lNi ?_|refine cRg ?_|refine cSq ?_|refine xTh ?_|refine r_box rfl rfl rfl rfl (fun _ => ?_)|fail)
  refine r_call rfl rfl rfl (fun W hW => R12.check_any n d W a1 a2 a3 a4) ?_
  rw [chk_f h1]
  repeat (first|refine lVa rfl rfl (by first|exact pEv rfl|exact vLd rfl (by repeat constructor) rfl (by rfl)|fail) ?_|refine lNi ?_|refine cRg ?_|refine cSq ?_|refine xTh ?_|refine l_skip rfl rfl ?_|refine c_true rfl ?_|refine c_ret ?_|refine xTr ?_|fail)
  exact x_ret rfl rfl (by repeat constructor) rfl (fun W hW => ⟨by rw [hv]; rfl, hW.below⟩)
 | true =>
  cases h2 : R12.okB m k with
  | false =>
   have hv : cmpA n d m k = (0, 120) := if_neg (by unfold okQ; rw [h1, h2]; decide)
   repeat (first|refine lVa rfl rfl (by first|exact pEv rfl|exact vLd rfl (by repeat constructor) rfl (by rfl)|fail) ?_|refine lNi ?_|refine cRg ?_|refine cSq ?_|refine xTh ?_|refine r_box rfl rfl rfl rfl (fun _ => ?_)|fail)
   refine r_call rfl rfl rfl (fun W hW => R12.check_any n d W a1 a2 a3 a4) ?_
   rw [chk_t h1]
   repeat (first|refine lVa rfl rfl (by first|exact pEv rfl|exact vLd rfl (by repeat constructor) rfl (by rfl)|fail) ?_|refine l_dec_f rfl rfl rfl rfl rfl (by first|omega|exact fun h => h rfl|fail) ?_|fail)
   refine r_call rfl rfl rfl (fun W hW => R12.check_any m k W a5 a6 a7 a8) ?_
   rw [chk_f h2]
   repeat (first|refine lVa rfl rfl (by first|exact pEv rfl|fail) ?_|refine lNi ?_|refine cRg ?_|refine cSq ?_|refine xTh ?_|refine c_true rfl ?_|refine c_ret ?_|refine xTr ?_|fail)
   exact x_ret rfl rfl (by repeat constructor) rfl (fun W hW => ⟨by rw [hv]; rfl, hW.below⟩)
  | true =>
   have hq : okQ n d m k = true := by unfold okQ; rw [h1, h2]; rfl
   have hv : cmpA n d m k = (cmpI (n * k) (m * d), 0) := if_pos hq
   obtain ⟨⟨p1, p2⟩, p3, p4⟩ := okQ_bd hq
   repeat (first|refine lVa rfl rfl (by first|exact pEv rfl|exact vLd rfl (by repeat constructor) rfl (by rfl)|fail) ?_|refine lNi ?_|refine cRg ?_|refine cSq ?_|refine xTh ?_|refine r_box rfl rfl rfl rfl (fun _ => ?_)|fail)
   refine r_call rfl rfl rfl (fun W hW => R12.check_any n d W a1 a2 a3 a4) ?_
   rw [chk_t h1]
   repeat (first|refine lVa rfl rfl (by first|exact pEv rfl|exact vLd rfl (by repeat constructor) rfl (by rfl)|fail) ?_|refine l_dec_f rfl rfl rfl rfl rfl (by first|omega|exact fun h => h rfl|fail) ?_|fail)
   refine r_call rfl rfl rfl (fun W hW => R12.check_any m k W a5 a6 a7 a8) ?_
   rw [chk_t h2]
   repeat (first|refine lVa rfl rfl (by first|exact v_mul rfl rfl (by omega) (by omega)|exact pEv rfl|exact vLd rfl (by repeat constructor) rfl (by rfl)|fail) ?_|refine lNi ?_|refine cRg ?_|refine cSq ?_|refine xTh ?_|refine c_false rfl ?_|refine cSk ?_|refine c_ret ?_|(refine r_call rfl rfl rfl (fun W hW => compare_calls _ _ W) ?_)|fail)
   exact x_ret rfl rfl (by repeat constructor) rfl (fun W hW => ⟨by rw [hv]; rfl, hW.below⟩)


/-- how long a sign lasts is in form -/
def spanB (n d m k : Int) : Bool := okQ n d m k && decide (n * k < m * d /\ 0 <= n /\ m <= k)
theorem span_f {n d m k : Int} (h : okQ n d m k = false) : spanB n d m k = false := by unfold spanB; rw [h]; rfl
theorem span_t {n d m k : Int} (h : okQ n d m k = true) : spanB n d m k = decide (n * k < m * d /\ 0 <= n /\ m <= k) := by unfold spanB; rw [h]; rfl
theorem fine_calls (n d m k : Int) (w : World) (hn : I64 n) (hd : I64 d) (hm : I64 m) (hk : I64 k) :
  Calls Tryz.prog 72 ⟨[.agg ⟨[.int .i64 n, .int .i64 d]⟩, .agg ⟨[.int .i64 m, .int .i64 k]⟩]⟩ w fun e w' => e = .returned (.bool (spanB n d m k)) /\ Under w.heap.size w w' := by
 refine fEn Tryz.func72 rfl Tryz.ntmps72 rfl rfl (sWn w) ?_
 cases h : okQ n d m k with
 | false =>
  have hc : cmpA n d m k = (0, 120) := if_neg (by rw [h]; decide)
  have hv := span_f h
  repeat (first|refine lVa rfl rfl (by first|exact pEv rfl|exact vLd rfl (by repeat constructor) rfl (by rfl)|fail) ?_|refine lNi ?_|refine cRg ?_|refine cSq ?_|refine xTh ?_|refine r_box rfl rfl rfl rfl (fun _ => ?_)|fail)
  refine r_call rfl rfl rfl (fun W hW => Cmp_calls n d m k W hn hd hm hk) ?_
  rw [hc]
  repeat (first|refine lVa rfl rfl (by first|exact pEv rfl|fail) ?_|refine lNi ?_|refine cRg ?_|refine cSq ?_|refine xTh ?_|refine l_skip rfl rfl ?_|refine c_ret ?_|fail)
  exact x_ret rfl rfl (by repeat constructor) rfl (fun W hW => ⟨by rw [hv], hW.below⟩)
 | true =>
  have hc : cmpA n d m k = (cmpI (n * k) (m * d), 0) := if_pos h
  have hv := span_t h
  repeat (first|refine lVa rfl rfl (by first|exact pEv rfl|exact vLd rfl (by repeat constructor) rfl (by rfl)|fail) ?_|refine lNi ?_|refine cRg ?_|refine cSq ?_|refine xTh ?_|refine r_box rfl rfl rfl rfl (fun _ => ?_)|fail)
  refine r_call rfl rfl rfl (fun W hW => Cmp_calls n d m k W hn hd hm hk) ?_
  rw [hc]
  by_cases h1 : n * k < m * d
  ·have e1 : cmpI (n * k) (m * d) = -1 := if_pos h1
   rw [e1]
   by_cases h2 : 0 <= n
   ·have hv2 : spanB n d m k = decide (m <= k) := by rw [hv]; exact decide_eq_decide.2 ⟨fun g => g.2.2, fun g => ⟨h1, h2, g⟩⟩
    repeat (first|refine lVa rfl rfl (by first|exact pEv rfl|exact vLd rfl (by repeat constructor) rfl (by rfl)|fail) ?_|refine lNi ?_|refine cRg ?_|refine cSq ?_|refine xTh ?_|refine c_ret ?_|refine l_dec_t rfl rfl rfl rfl rfl (by first|omega|fail) ?_|fail)
    exact x_ret rfl rfl (by repeat constructor) rfl (fun W hW => ⟨by rw [hv2], hW.below⟩)
   ·have hv2 : spanB n d m k = false := by rw [hv]; exact decide_eq_false fun g => h2 g.2.1
    repeat (first|refine lVa rfl rfl (by first|exact pEv rfl|exact vLd rfl (by repeat constructor) rfl (by rfl)|fail) ?_|refine lNi ?_|refine cRg ?_|refine cSq ?_|refine xTh ?_|refine l_skip rfl rfl ?_|refine c_ret ?_|refine l_dec_f rfl rfl rfl rfl rfl (by first|omega|fail) ?_|fail)
    exact x_ret rfl rfl (by repeat constructor) rfl (fun W hW => ⟨by rw [hv2], hW.below⟩)
  ·have e1 : 0 <= cmpI (n * k) (m * d) := by unfold cmpI; rw [if_neg h1]; split <;> decide
   have hv2 : spanB n d m k = false := by rw [hv]; exact decide_eq_false fun g => h1 g.1
   generalize cmpI (n * k) (m * d) = z at *
   repeat (first|refine lVa rfl rfl (by first|exact pEv rfl|fail) ?_|refine lNi ?_|refine cRg ?_|refine cSq ?_|refine xTh ?_|refine l_skip rfl rfl ?_|refine c_ret ?_|refine l_dec_f rfl rfl rfl rfl rfl (by first|omega|fail) ?_|fail)
   exact x_ret rfl rfl (by repeat constructor) rfl (fun W hW => ⟨by rw [hv2], hW.below⟩)

/-! ## Signs in form -/
def formP (s : Sg) : Prop := (0 <= s.id /\ s.id <= 1048576) /\ (0 <= s.role /\ s.role <= 63) /\ (0 <= s.bar /\ s.bar <= 4095) /\ (1 <= s.kind /\ s.kind <= 9) /\ (1 <= s.mark /\ s.mark <= 3) /\ (0 <= s.side /\ s.side <= 2) /\ (0 <= s.dir /\ s.dir <= 8) /\ (0 <= s.level /\ s.level <= 3) /\ (0 <= s.size /\ s.size <= 255) /\ (0 <= s.wth /\ s.wth <= 64) /\ spanB s.fn s.fd s.tn s.td = true
instance (s : Sg) : Decidable (formP s) := by unfold formP; infer_instance
def formB (s : Sg) : Bool := decide (formP s)
/-- numbers of 64 bits -/
structure Sg.wf (s : Sg) : Prop where
 fn : I64 s.fn
 fd : I64 s.fd
 tn : I64 s.tn
 td : I64 s.td
theorem form_calls (s : Sg) (w : World) (hs : s.wf) : Calls Tryz.prog 42 ⟨[.agg ⟨sgE s⟩]⟩ w fun e w' => e = .returned (.bool (formB s)) /\ Under w.heap.size w w' := by
 refine fEn Tryz.func42 rfl Tryz.ntmps42 rfl rfl (sWn w) ?_
 by_cases h0 : 0 <= s.id /\ s.id <= 1048576
 rotate_left
 ·have hv : formB s = false := decide_eq_false fun h => h0 h.1
  repeat (first|refine lVa rfl rfl (by first|exact pEv rfl|exact vLd rfl (by repeat constructor) rfl (by rfl)|fail) ?_|refine lNi ?_|refine cRg ?_|refine cSq ?_|refine xTh ?_|refine l_skip rfl rfl ?_|refine r_box rfl rfl rfl rfl (fun _ => ?_)|refine c_ret ?_|refine l_dec_f rfl rfl rfl rfl rfl (by first|omega|fail) ?_|(refine r_call rfl rfl rfl (fun W hW => ewithin_calls _ _ _ W) ?_)|fail)
  exact x_ret rfl rfl (by repeat constructor) rfl (fun W hW => ⟨by rw [hv], hW.below⟩)
 by_cases h1 : 0 <= s.role /\ s.role <= 63
 rotate_left
 ·have hv : formB s = false := decide_eq_false fun h => h1 h.2.1
  repeat (first|refine lVa rfl rfl (by first|exact pEv rfl|exact vLd rfl (by repeat constructor) rfl (by rfl)|fail) ?_|refine lNi ?_|refine cRg ?_|refine cSq ?_|refine xTh ?_|refine l_skip rfl rfl ?_|refine r_box rfl rfl rfl rfl (fun _ => ?_)|refine c_ret ?_|refine l_dec_t rfl rfl rfl rfl rfl (by first|omega|fail) ?_|refine l_dec_f rfl rfl rfl rfl rfl (by first|omega|fail) ?_|(refine r_call rfl rfl rfl (fun W hW => ewithin_calls _ _ _ W) ?_)|fail)
  exact x_ret rfl rfl (by repeat constructor) rfl (fun W hW => ⟨by rw [hv], hW.below⟩)
 by_cases h2 : 0 <= s.bar /\ s.bar <= 4095
 rotate_left
 ·have hv : formB s = false := decide_eq_false fun h => h2 h.2.2.1
  repeat (first|refine lVa rfl rfl (by first|exact pEv rfl|exact vLd rfl (by repeat constructor) rfl (by rfl)|fail) ?_|refine lNi ?_|refine cRg ?_|refine cSq ?_|refine xTh ?_|refine l_skip rfl rfl ?_|refine r_box rfl rfl rfl rfl (fun _ => ?_)|refine c_ret ?_|refine l_dec_t rfl rfl rfl rfl rfl (by first|omega|fail) ?_|refine l_dec_f rfl rfl rfl rfl rfl (by first|omega|fail) ?_|(refine r_call rfl rfl rfl (fun W hW => ewithin_calls _ _ _ W) ?_)|fail)
  exact x_ret rfl rfl (by repeat constructor) rfl (fun W hW => ⟨by rw [hv], hW.below⟩)
 by_cases h3 : 1 <= s.kind /\ s.kind <= 9
 rotate_left
 ·have hv : formB s = false := decide_eq_false fun h => h3 h.2.2.2.1
  repeat (first|refine lVa rfl rfl (by first|exact pEv rfl|exact vLd rfl (by repeat constructor) rfl (by rfl)|fail) ?_|refine lNi ?_|refine cRg ?_|refine cSq ?_|refine xTh ?_|refine l_skip rfl rfl ?_|refine r_box rfl rfl rfl rfl (fun _ => ?_)|refine c_ret ?_|refine l_dec_t rfl rfl rfl rfl rfl (by first|omega|fail) ?_|refine l_dec_f rfl rfl rfl rfl rfl (by first|omega|fail) ?_|(refine r_call rfl rfl rfl (fun W hW => ewithin_calls _ _ _ W) ?_)|fail)
  exact x_ret rfl rfl (by repeat constructor) rfl (fun W hW => ⟨by rw [hv], hW.below⟩)
 by_cases h4 : 1 <= s.mark /\ s.mark <= 3
 rotate_left
 ·have hv : formB s = false := decide_eq_false fun h => h4 h.2.2.2.2.1
  repeat (first|refine lVa rfl rfl (by first|exact pEv rfl|exact vLd rfl (by repeat constructor) rfl (by rfl)|fail) ?_|refine lNi ?_|refine cRg ?_|refine cSq ?_|refine xTh ?_|refine l_skip rfl rfl ?_|refine r_box rfl rfl rfl rfl (fun _ => ?_)|refine c_ret ?_|refine l_dec_t rfl rfl rfl rfl rfl (by first|omega|fail) ?_|refine l_dec_f rfl rfl rfl rfl rfl (by first|omega|fail) ?_|(refine r_call rfl rfl rfl (fun W hW => ewithin_calls _ _ _ W) ?_)|fail)
  exact x_ret rfl rfl (by repeat constructor) rfl (fun W hW => ⟨by rw [hv], hW.below⟩)
 by_cases h5 : 0 <= s.side /\ s.side <= 2
 rotate_left
 ·have hv : formB s = false := decide_eq_false fun h => h5 h.2.2.2.2.2.1
  repeat (first|refine lVa rfl rfl (by first|exact pEv rfl|exact vLd rfl (by repeat constructor) rfl (by rfl)|fail) ?_|refine lNi ?_|refine cRg ?_|refine cSq ?_|refine xTh ?_|refine l_skip rfl rfl ?_|refine r_box rfl rfl rfl rfl (fun _ => ?_)|refine c_ret ?_|refine l_dec_t rfl rfl rfl rfl rfl (by first|omega|fail) ?_|refine l_dec_f rfl rfl rfl rfl rfl (by first|omega|fail) ?_|(refine r_call rfl rfl rfl (fun W hW => ewithin_calls _ _ _ W) ?_)|fail)
  exact x_ret rfl rfl (by repeat constructor) rfl (fun W hW => ⟨by rw [hv], hW.below⟩)
 by_cases h6 : 0 <= s.dir /\ s.dir <= 8
 rotate_left
 ·have hv : formB s = false := decide_eq_false fun h => h6 h.2.2.2.2.2.2.1
  repeat (first|refine lVa rfl rfl (by first|exact pEv rfl|exact vLd rfl (by repeat constructor) rfl (by rfl)|fail) ?_|refine lNi ?_|refine cRg ?_|refine cSq ?_|refine xTh ?_|refine l_skip rfl rfl ?_|refine r_box rfl rfl rfl rfl (fun _ => ?_)|refine c_ret ?_|refine l_dec_t rfl rfl rfl rfl rfl (by first|omega|fail) ?_|refine l_dec_f rfl rfl rfl rfl rfl (by first|omega|fail) ?_|(refine r_call rfl rfl rfl (fun W hW => ewithin_calls _ _ _ W) ?_)|fail)
  exact x_ret rfl rfl (by repeat constructor) rfl (fun W hW => ⟨by rw [hv], hW.below⟩)
 by_cases h7 : 0 <= s.level /\ s.level <= 3
 rotate_left
 ·have hv : formB s = false := decide_eq_false fun h => h7 h.2.2.2.2.2.2.2.1
  repeat (first|refine lVa rfl rfl (by first|exact pEv rfl|exact vLd rfl (by repeat constructor) rfl (by rfl)|fail) ?_|refine lNi ?_|refine cRg ?_|refine cSq ?_|refine xTh ?_|refine l_skip rfl rfl ?_|refine r_box rfl rfl rfl rfl (fun _ => ?_)|refine c_ret ?_|refine l_dec_t rfl rfl rfl rfl rfl (by first|omega|fail) ?_|refine l_dec_f rfl rfl rfl rfl rfl (by first|omega|fail) ?_|(refine r_call rfl rfl rfl (fun W hW => ewithin_calls _ _ _ W) ?_)|fail)
  exact x_ret rfl rfl (by repeat constructor) rfl (fun W hW => ⟨by rw [hv], hW.below⟩)
 by_cases h8 : 0 <= s.size /\ s.size <= 255
 rotate_left
 ·have hv : formB s = false := decide_eq_false fun h => h8 h.2.2.2.2.2.2.2.2.1
  repeat (first|refine lVa rfl rfl (by first|exact pEv rfl|exact vLd rfl (by repeat constructor) rfl (by rfl)|fail) ?_|refine lNi ?_|refine cRg ?_|refine cSq ?_|refine xTh ?_|refine l_skip rfl rfl ?_|refine r_box rfl rfl rfl rfl (fun _ => ?_)|refine c_ret ?_|refine l_dec_t rfl rfl rfl rfl rfl (by first|omega|fail) ?_|refine l_dec_f rfl rfl rfl rfl rfl (by first|omega|fail) ?_|(refine r_call rfl rfl rfl (fun W hW => ewithin_calls _ _ _ W) ?_)|fail)
  exact x_ret rfl rfl (by repeat constructor) rfl (fun W hW => ⟨by rw [hv], hW.below⟩)
 by_cases h9 : 0 <= s.wth /\ s.wth <= 64
 rotate_left
 ·have hv : formB s = false := decide_eq_false fun h => h9 h.2.2.2.2.2.2.2.2.2.1
  repeat (first|refine lVa rfl rfl (by first|exact pEv rfl|exact vLd rfl (by repeat constructor) rfl (by rfl)|fail) ?_|refine lNi ?_|refine cRg ?_|refine cSq ?_|refine xTh ?_|refine l_skip rfl rfl ?_|refine r_box rfl rfl rfl rfl (fun _ => ?_)|refine c_ret ?_|refine l_dec_t rfl rfl rfl rfl rfl (by first|omega|fail) ?_|refine l_dec_f rfl rfl rfl rfl rfl (by first|omega|fail) ?_|(refine r_call rfl rfl rfl (fun W hW => ewithin_calls _ _ _ W) ?_)|fail)
  exact x_ret rfl rfl (by repeat constructor) rfl (fun W hW => ⟨by rw [hv], hW.below⟩)
 have hv : formB s = spanB s.fn s.fd s.tn s.td := by
  cases hc : spanB s.fn s.fd s.tn s.td
  ·exact decide_eq_false fun h => by have := h.2.2.2.2.2.2.2.2.2.2; rw [hc] at this; cases this
  ·exact decide_eq_true ⟨h0, h1, h2, h3, h4, h5, h6, h7, h8, h9, hc⟩
 repeat (first|refine lVa rfl rfl (by first|exact pEv rfl|exact vLd rfl (by repeat constructor) rfl (by rfl)|fail) ?_|refine lNi ?_|refine cRg ?_|refine cSq ?_|refine xTh ?_|refine r_box rfl rfl rfl rfl (fun _ => ?_)|refine c_ret ?_|refine l_dec_t rfl rfl rfl rfl rfl (by first|omega|fail) ?_|(refine r_call rfl rfl rfl (fun W hW => ewithin_calls _ _ _ W) ?_)|(refine r_call rfl rfl rfl (fun W hW => fine_calls _ _ _ _ W hs.fn hs.fd hs.tn hs.td) ?_)|fail)
 exact x_ret rfl rfl (by repeat constructor) rfl (fun W hW => ⟨by rw [hv], hW.below⟩)

end R41
end Go.Proofs

namespace Go.Proofs
open Go.RowKit Go.Kin Go.Kin.Cl
namespace R41
theorem eqsg (s t : Sg) : eqV tt [30, 32, 58, 99, 109] 8 32 (.agg ⟨sgE s⟩) (.agg ⟨sgE t⟩) = some (decide (s = t)) := by
 obtain ⟨s0, s1, s2, s3, s4, s5, s6, s7, s8, s9, s10, s11, s12, s13⟩ := s
 obtain ⟨t0, t1, t2, t3, t4, t5, t6, t7, t8, t9, t10, t11, t12, t13⟩ := t
 show some (decide (s0 = t0) && (decide (s1 = t1) && (decide (s2 = t2) && (decide (s3 = t3) && (decide (s4 = t4) && (decide (s5 = t5) && (decide (s6 = t6) && (decide (s7 = t7) && (decide (s8 = t8) && (decide (s9 = t9) && ((decide (s10 = t10) && decide (s11 = t11)) && (decide (s12 = t12) && decide (s13 = t13))))))))))))) = _
 rw [Option.some.injEq, Bool.eq_iff_iff]
 simp only [Bool.and_eq_true, decide_eq_true_eq, Sg.mk.injEq, and_assoc]
end R41
end Go.Proofs
