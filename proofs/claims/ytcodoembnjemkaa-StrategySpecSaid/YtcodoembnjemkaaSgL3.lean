/- Games on networks: the law Spec. -/
import Derived.Test.YtcodoembnjemkaaSgQa
import Derived.Test.YtcodoembnjemkaaSgQk
set_option maxRecDepth 100000
set_option maxHeartbeats 400000000
set_option linter.unusedSectionVars false
set_option linter.unusedVariables false
set_option linter.unusedSimpArgs false
namespace Go.Proofs
open Go.RowKit Go.Kin Go.Kin.St Go.Kin.Ct Go.Kin.Sg
namespace R24
theorem law3 (u : R23.Un) (T : Int) (S A5 : Option Addr) (cs cw : Nat) (rows : List DW) (wt : List Int) (w : World) (hA : u.In w) (hS : StrIn w S rows) (hwA : At w A5 1 (wt.map inE)) (hwl : wt.length <= 9223372036854775807) :
  Calls Try.prog 3 ⟨[.agg ⟨u.v⟩, .int .i64 T, .slice S rows.length cs, .slice A5 wt.length cw]⟩ w fun e w' => e = .returned (.bool true) /\ Below w.heap.size w w' := by
 have hfew : ∀ (mem : List (Nat × Obj)) (W : World), SatW w (base w) noJ mem W -> Calls Try.prog 9 ⟨[.agg ⟨u.v⟩, .int .i64 T]⟩ W fun e w' => e = .returned (.bool (fwB u.n u.L u.C T)) /\ Below W.heap.size W w' := fun mem W hW => FewS_calls u T W (hA.sat hW)
 have hpl : u.L.length <= 1000 -> u.C.length <= 1000 -> rows.length <= 1000000 -> (∀ r ∈ rows, r.l.length <= 1000 /\ r.d.length <= 1000) -> ∀ (mem : List (Nat × Obj)) (W : World), SatW w (base w) noJ mem W -> Calls Try.prog 11 ⟨[.agg ⟨u.v⟩, .int .i64 T, .slice S rows.length cs, .slice A5 wt.length cw]⟩ W (PlQ u.n u.L u.C T rows wt W) := fun hl hc hr hd mem W hW => Play_calls u T S cs rows A5 cw wt W (hA.sat hW) hl hc (hS.later hW.below) (by omega) hd (hwA.sat hW)
 have hplr : u.L.length <= 1000 -> u.C.length <= 1000 -> rows.length <= 1000000 -> (∀ r ∈ rows, r.l.length <= 1000 /\ r.d.length <= 1000) -> ∀ (mem : List (Nat × Obj)) (W : World), SatW w (base w) noJ mem W -> Calls Try.prog 12 ⟨[.agg ⟨u.v⟩, .int .i64 T, .slice S rows.length cs, .slice A5 wt.length cw]⟩ W (PlQ u.n u.L u.C T rows wt W) := fun hl hc hr hd mem W hW => PlayR_calls u T S cs rows A5 cw wt W (hA.sat hW) hl hc (hS.later hW.below) hr hd (hwA.sat hW)
 have hck : u.L.length <= 1000 -> u.C.length <= 1000 -> ∀ (mem : List (Nat × Obj)) (W : World), SatW w (base w) noJ mem W -> Calls Try.prog 13 ⟨[.agg ⟨u.v⟩, .int .i64 T]⟩ W fun e w' => e = .returned (.int .i64 (chkS u.n u.L u.C T)) /\ Below W.heap.size W w' := fun hl hc mem W hW => CheckS_calls u T W (hA.sat hW) hl hc
 have hckr : u.L.length <= 1000 -> u.C.length <= 1000 -> ∀ (mem : List (Nat × Obj)) (W : World), SatW w (base w) noJ mem W -> Calls Try.prog 14 ⟨[.agg ⟨u.v⟩, .int .i64 T]⟩ W fun e w' => e = .returned (.int .i64 (chkS u.n u.L u.C T)) /\ Below W.heap.size W w' := fun hl hc mem W hW => CheckR_calls u T W (hA.sat hW) hl hc
 obtain ⟨n, A, ca, L, B, cb, C⟩ := u
 simp only [R23.Un.v] at hfew hpl hplr hck hckr ⊢
 refine fun_enter Try.func3 rfl Try.ntmps3 rfl rfl (satW_nil w) ?_
 repeat (first|refine l_val rfl rfl (by first|exact pureEval_ok rfl|fail) ?_|refine l_nil ?_|refine c_region ?_|refine c_seq ?_|refine x_then ?_|refine r_box rfl rfl rfl rfl (fun _ => ?_)|fail)
 refine r_call rfl rfl rfl (fun W hW => sane_calls W) ?_
 repeat (first|refine l_val rfl rfl (by first|exact pureEval_ok rfl|exact v_load rfl (by repeat constructor) rfl (by rfl)|fail) ?_|refine l_nil ?_|refine c_region ?_|refine c_seq ?_|refine x_then ?_|refine c_false rfl ?_|refine c_skip ?_|fail)
 refine r_call rfl rfl rfl (fun W hW => hfew _ W hW) ?_
 cases hf : fwB n L C T with
 | false =>
  repeat (first|refine l_val rfl rfl (by first|exact pureEval_ok rfl|fail) ?_|refine l_nil ?_|refine c_region ?_|refine c_seq ?_|refine x_then ?_|refine l_skip rfl rfl ?_|refine c_true rfl ?_|refine c_ret ?_|refine x_then_ret ?_|fail)
  exact x_ret rfl rfl (by repeat (first|exact .nil|(apply Res.tmp; rfl)|(apply Res.cell; rfl; exact (by repeat constructor); rfl; rfl))) rfl (fun W hW => ⟨rfl, hW.below⟩)
 | true =>
 obtain ⟨hl, hc, hfw⟩ := fwB_ok hf
 have hck := hck (by omega) (by omega)
 have hckr := hckr (by omega) (by omega)
 repeat (first|refine l_val rfl rfl (by first|exact pureEval_ok rfl|fail) ?_|fail)
 refine r_call rfl rfl rfl (fun W hW => FewD_calls S cs rows W (hS.later hW.below).r) ?_
 cases hfa : fdB rows with
 | false =>
  repeat (first|refine l_val rfl rfl (by first|exact pureEval_ok rfl|fail) ?_|refine l_nil ?_|refine c_region ?_|refine c_seq ?_|refine x_then ?_|refine c_true rfl ?_|refine c_ret ?_|refine x_then_ret ?_|fail)
  exact x_ret rfl rfl (by repeat (first|exact .nil|(apply Res.tmp; rfl)|(apply Res.cell; rfl; exact (by repeat constructor); rfl; rfl))) rfl (fun W hW => ⟨rfl, hW.below⟩)
 | true =>
 obtain ⟨ha1, ha2⟩ := fdB_ok hfa
 have hdl : ∀ r ∈ rows, r.l.length <= 1000 /\ r.d.length <= 1000 := fun r hr => by have := ha2 r hr; omega
 have hpl := hpl (by omega) (by omega) (by omega) hdl
 have hplr := hplr (by omega) (by omega) (by omega) hdl
 repeat (first|refine l_val rfl rfl (by first|exact pureEval_ok rfl|exact v_load rfl (by repeat constructor) rfl (by rfl)|fail) ?_|refine l_nil ?_|refine c_region ?_|refine c_seq ?_|refine x_then ?_|refine c_false rfl ?_|refine c_skip ?_|fail)
 obtain ⟨ck, hckv⟩ : ∃ ck, chkS n L C T = ck := ⟨_, rfl⟩
 rw [hckv] at hck hckr
 have hnil : ∀ W, Calls Try.prog 15 ⟨[.slice none 0 0, .slice none 0 0]⟩ W fun e w' => e = .returned (.bool true) /\ Below W.heap.size W w' := fun W => by
  have := same15_calls none none 0 0 [] [] W (fun i cs hi => by simp at hi) (fun i cs hi => by simp at hi) (by decide)
  rw [decide_eq_true rfl] at this
  exact this
 by_cases hp : plc n L C T rows wt = 0
 ·have hlen : (plA ⟨n.toNat, T.toNat, L, C⟩ wt (tabW rows)).length <= 9223372036854775806 := by
   have h0 : rdC n L C T rows = 0 := by
    by_cases h : rdC n L C T rows = 0
    ·exact h
    ·rw [plc_a h] at hp; exact absurd hp h
   obtain ⟨_, _, _, t3, _⟩ := chkS_ok (rdC_ok h0).1
   unfold plA
   rw [plF_len, List.length_replicate]
   show n.toNat <= _
   omega
  obtain ⟨pa, hpa⟩ : ∃ pa, plA ⟨n.toNat, T.toNat, L, C⟩ wt (tabW rows) = pa := ⟨_, rfl⟩
  rw [hpa] at hlen
  refine r_call1 (ι := PlI) (v := fun i => .tuple ⟨[.slice (some ⟨i.b, 0, none⟩) pa.length i.c, .int .i64 0]⟩) (bk := fun i => i.b) (o := fun i => .cells ⟨flI pa ++ i.r⟩ 3 (0, 0)) rfl rfl rfl (fun W hW => (hpl _ W hW).mono ?_) (fun i => ?_)
  ·rintro e w' ⟨h1, h2⟩
   rcases h2 with ⟨h3, _⟩ | ⟨_, i, h4, h5, h6⟩
   ·exact absurd hp h3
   ·rw [hpa] at h4 h6
    exact ⟨i, h4, h1, h5, h6⟩
  repeat (first|refine l_val rfl rfl (by first|exact pureEval_ok rfl|exact v_load rfl (by repeat constructor) rfl (by rfl)|fail) ?_|refine l_nil ?_|refine c_region ?_|refine c_seq ?_|refine x_then ?_|fail)
  refine r_call1 (ι := PlI) (v := fun i => .tuple ⟨[.slice (some ⟨i.b, 0, none⟩) pa.length i.c, .int .i64 0]⟩) (bk := fun i => i.b) (o := fun i => .cells ⟨flI pa ++ i.r⟩ 3 (0, 0)) rfl rfl rfl (fun W hW => (hplr _ W hW).mono ?_) (fun j => ?_)
  ·rintro e w' ⟨h1, h2⟩
   rcases h2 with ⟨h3, _⟩ | ⟨_, i, h4, h5, h6⟩
   ·exact absurd hp h3
   ·rw [hpa] at h4 h6
    exact ⟨i, h4, h1, h5, h6⟩
  have hsame : ∀ (mem : List (Nat × Obj)) (W : World), SatW w (base w) noJ mem W -> (i.b, Obj.cells ⟨flI pa ++ i.r⟩ 3 (0, 0)) ∈ mem -> (j.b, Obj.cells ⟨flI pa ++ j.r⟩ 3 (0, 0)) ∈ mem ->
    Calls Try.prog 15 ⟨[.slice (some ⟨i.b, 0, none⟩) pa.length i.c, .slice (some ⟨j.b, 0, none⟩) pa.length j.c]⟩ W fun e w' => e = .returned (.bool true) /\ Below W.heap.size W w' := fun mem W hW m1 m2 => by
   have := same15_calls (some ⟨i.b, 0, none⟩) (some ⟨j.b, 0, none⟩) i.c j.c pa pa W (at_flI hW m1) (at_flI hW m2) hlen
   rw [decide_eq_true rfl] at this
   exact this
  repeat (first|refine l_val rfl rfl (by first|exact pureEval_ok rfl|fail) ?_|refine l_nil ?_|refine c_seq ?_|refine x_then ?_|refine c_reads rfl (by decide +kernel) ?_|refine q_val rfl rfl (by first|exact pureEval_ok rfl|exact v_load rfl (by repeat constructor) rfl (by rfl)|fail) ?_|fail)
  refine q_call rfl rfl rfl (fun W hW => hck _ W hW) ?_
  repeat (first|refine q_val rfl rfl (by first|exact pureEval_ok rfl|exact v_load rfl (by repeat constructor) rfl (by rfl)|fail) ?_|fail)
  refine q_call rfl rfl rfl (fun W hW => hckr _ W hW) ?_
  repeat (first|refine q_val rfl rfl (by first|exact pureEval_ok rfl|fail) ?_|refine q_dec_t rfl rfl rfl rfl (by first|omega|fail) ?_|fail)
  refine q_call rfl rfl rfl (fun W hW => hsame _ W hW (by repeat constructor) (by repeat constructor)) ?_
  repeat (first|refine x_then ?_|refine c_ret ?_|refine q_val rfl rfl (by first|exact pureEval_ok rfl|fail) ?_|refine q_nil ?_|fail)
  exact x_ret rfl rfl (by repeat (first|exact .nil|(apply Res.tmp; rfl)|(apply Res.cell; rfl; exact (by repeat constructor); rfl; rfl))) rfl (fun W hW => ⟨rfl, hW.below⟩)
 ·have h0 : (plc n L C T rows wt = 0) = False := eq_false hp
  refine r_call (v := .tuple ⟨[.slice none 0 0, .int .i64 (plc n L C T rows wt)]⟩) rfl rfl rfl (fun W hW => (hpl _ W hW).mono ?_) ?_
  ·rintro e w' ⟨h1, h2⟩
   rcases h2 with ⟨_, h3⟩ | ⟨h3, _⟩
   ·exact ⟨h3, h1⟩
   ·exact absurd h3 hp
  repeat (first|refine l_val rfl rfl (by first|exact pureEval_ok rfl|exact v_load rfl (by repeat constructor) rfl (by rfl)|fail) ?_|refine l_nil ?_|refine c_region ?_|refine c_seq ?_|refine x_then ?_|fail)
  refine r_call (v := .tuple ⟨[.slice none 0 0, .int .i64 (plc n L C T rows wt)]⟩) rfl rfl rfl (fun W hW => (hplr _ W hW).mono ?_) ?_
  ·rintro e w' ⟨h1, h2⟩
   rcases h2 with ⟨_, h3⟩ | ⟨h3, _⟩
   ·exact ⟨h3, h1⟩
   ·exact absurd h3 hp
  repeat (first|refine l_val rfl rfl (by first|exact pureEval_ok rfl|fail) ?_|refine l_nil ?_|refine c_seq ?_|refine x_then ?_|refine c_reads rfl (by decide +kernel) ?_|refine q_val rfl rfl (by first|exact pureEval_ok rfl|exact v_load rfl (by repeat constructor) rfl (by rfl)|fail) ?_|fail)
  refine q_call rfl rfl rfl (fun W hW => hck _ W hW) ?_
  repeat (first|refine q_val rfl rfl (by first|exact pureEval_ok rfl|exact v_load rfl (by repeat constructor) rfl (by rfl)|fail) ?_|fail)
  refine q_call rfl rfl rfl (fun W hW => hckr _ W hW) ?_
  repeat (first|refine q_val rfl rfl (by first|exact pureEval_ok rfl|fail) ?_|refine q_dec_t rfl rfl rfl rfl (by first|omega|fail) ?_|fail)
  refine q_call rfl rfl rfl (fun W hW => hnil W) ?_
  repeat (first|refine x_then ?_|refine c_ret ?_|refine q_val rfl rfl (by first|exact pureEval_ok rfl|fail) ?_|refine q_nil ?_|fail)
  simp only [eq_self, decide_true]
  exact x_ret rfl rfl (by repeat (first|exact .nil|(apply Res.tmp; rfl)|(apply Res.cell; rfl; exact (by repeat constructor); rfl; rfl))) rfl (fun W hW => ⟨rfl, hW.below⟩)
end R24
end Go.Proofs
