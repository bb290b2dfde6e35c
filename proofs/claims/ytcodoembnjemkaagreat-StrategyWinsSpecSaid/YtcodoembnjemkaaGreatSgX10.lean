/- Games on networks: the laws WinsSpec and SolveSpec. -/
import Derived.Test.YtcodoembnjemkaaGreatSgX9
import Derived.Test.YtcodoembnjemkaaGreatSgSan
set_option maxRecDepth 100000
set_option maxHeartbeats 400000000
set_option linter.unusedSectionVars false
set_option linter.unusedVariables false
set_option linter.unusedSimpArgs false
namespace Go.Proofs
open Go.RowKit Go.Kin Go.Kin.St Go.Kin.Ct Go.Kin.Sg
namespace R24
theorem law3 (u : R23.Un) (T : Int) (S : Option Addr) (cs : Nat) (rows : List DW) (w : World) (hA : u.In w) (hS : StrIn w S rows) :
  Calls Tryz.prog 3 ⟨[.agg ⟨u.v⟩, .int .i64 T, .slice S rows.length cs]⟩ w fun e w' => e = .returned (.bool true) /\ Below w.heap.size w w' := by
 have hfew : ∀ (mem : List (Nat × Obj)) (W : World), SatW w (base w) noJ mem W -> Calls Tryz.prog 6 ⟨[.agg ⟨u.v⟩, .int .i64 T]⟩ W fun e w' => e = .returned (.bool (fwB u.n u.L u.C T)) /\ Below W.heap.size W w' := fun mem W hW => FewS_calls u T W (hA.sat hW)
 have h8 : u.L.length <= 1000 -> u.C.length <= 1000 -> rows.length <= 1000000 -> (∀ r ∈ rows, r.l.length <= 1000 /\ r.d.length <= 1000) -> ∀ (mem : List (Nat × Obj)) (W : World), SatW w (base w) noJ mem W -> Calls Tryz.prog 8 ⟨[.agg ⟨u.v⟩, .int .i64 T, .slice S rows.length cs]⟩ W fun e w' => e = .returned (winsV u.n u.L u.C T rows) /\ Below W.heap.size W w' := fun hl hc hr hd mem W hW => Wins_calls u T S cs rows W (hA.sat hW) hl hc (hS.later hW.below) (by omega) hd
 have h9 : u.L.length <= 1000 -> u.C.length <= 1000 -> rows.length <= 1000000 -> (∀ r ∈ rows, r.l.length <= 1000 /\ r.d.length <= 1000) -> ∀ (mem : List (Nat × Obj)) (W : World), SatW w (base w) noJ mem W -> Calls Tryz.prog 9 ⟨[.agg ⟨u.v⟩, .int .i64 T, .slice S rows.length cs]⟩ W fun e w' => e = .returned (winsV u.n u.L u.C T rows) /\ Below W.heap.size W w' := fun hl hc hr hd mem W hW => WinsR_calls u T S cs rows W (hA.sat hW) hl hc (hS.later hW.below) hr hd
 have h10 : u.L.length <= 1000 -> u.C.length <= 1000 -> rows.length <= 1000000 -> (∀ r ∈ rows, r.l.length <= 1000 /\ r.d.length <= 1000) -> ∀ (mem : List (Nat × Obj)) (W : World), SatW w (base w) noJ mem W -> Calls Tryz.prog 10 ⟨[.agg ⟨u.v⟩, .int .i64 T, .slice S rows.length cs]⟩ W fun e w' => e = .returned (spoilsV u.n u.L u.C T rows) /\ Below W.heap.size W w' := fun hl hc hr hd mem W hW => Spoils_calls u T S cs rows W (hA.sat hW) hl hc (hS.later hW.below) (by omega) hd
 have h11 : u.L.length <= 1000 -> u.C.length <= 1000 -> rows.length <= 1000000 -> (∀ r ∈ rows, r.l.length <= 1000 /\ r.d.length <= 1000) -> ∀ (mem : List (Nat × Obj)) (W : World), SatW w (base w) noJ mem W -> Calls Tryz.prog 11 ⟨[.agg ⟨u.v⟩, .int .i64 T, .slice S rows.length cs]⟩ W fun e w' => e = .returned (spoilsV u.n u.L u.C T rows) /\ Below W.heap.size W w' := fun hl hc hr hd mem W hW => SpoilsR_calls u T S cs rows W (hA.sat hW) hl hc (hS.later hW.below) hr hd
 obtain ⟨n, A, ca, L, B, cb, C⟩ := u
 simp only [R23.Un.v] at hfew h8 h9 h10 h11 ⊢
 refine fun_enter Tryz.func3 rfl Tryz.ntmps3 rfl rfl (satW_nil w) ?_
 repeat (first|refine l_val rfl rfl (by first|exact pureEval_ok rfl|fail) ?_|refine l_nil ?_|refine c_region ?_|refine c_seq ?_|refine x_then ?_|refine r_box rfl rfl rfl rfl (fun _ => ?_)|fail)
 refine r_call rfl rfl rfl (fun W hW => sane_calls W) ?_
 repeat (first|refine l_val rfl rfl (by first|exact pureEval_ok rfl|exact v_load rfl (by repeat constructor) rfl (by rfl)|fail) ?_|refine l_nil ?_|refine c_region ?_|refine c_seq ?_|refine x_then ?_|refine c_false rfl ?_|refine c_skip ?_|fail)
 refine r_call rfl rfl rfl (fun W hW => hfew _ W hW) ?_
 cases hf : fwB n L C T with
 | false =>
  repeat (first|refine l_val rfl rfl (by first|exact pureEval_ok rfl|fail) ?_|refine l_nil ?_|refine c_region ?_|refine c_seq ?_|refine x_then ?_|refine l_skip rfl rfl ?_|refine c_true rfl ?_|refine c_ret ?_|refine x_then_ret ?_|fail)
  exact x_ret rfl rfl (by repeat (first|exact .nil|(apply Res.tmp; rfl)|(apply Res.cell; rfl; exact (by repeat constructor); rfl; rfl))) rfl (fun W hW => ⟨rfl, hW.below⟩)
 | true =>
 obtain ⟨hl, hc, hfw⟩ := fwB_ok hf
 repeat (first|refine l_val rfl rfl (by first|exact pureEval_ok rfl|fail) ?_|fail)
 refine r_call rfl rfl rfl (fun W hW => FewD_calls S cs rows W (hS.later hW.below).r) ?_
 cases hfa : fdB rows with
 | false =>
  repeat (first|refine l_val rfl rfl (by first|exact pureEval_ok rfl|fail) ?_|refine l_nil ?_|refine c_region ?_|refine c_seq ?_|refine x_then ?_|refine c_true rfl ?_|refine c_ret ?_|refine x_then_ret ?_|fail)
  exact x_ret rfl rfl (by repeat (first|exact .nil|(apply Res.tmp; rfl)|(apply Res.cell; rfl; exact (by repeat constructor); rfl; rfl))) rfl (fun W hW => ⟨rfl, hW.below⟩)
 | true =>
 obtain ⟨ha1, ha2⟩ := fdB_ok hfa
 have hdl : ∀ r ∈ rows, r.l.length <= 1000 /\ r.d.length <= 1000 := fun r hr => by have := ha2 r hr; omega
 have h8 := h8 (by omega) (by omega) (by omega) hdl
 have h9 := h9 (by omega) (by omega) (by omega) hdl
 have h10 := h10 (by omega) (by omega) (by omega) hdl
 have h11 := h11 (by omega) (by omega) (by omega) hdl
 obtain ⟨a, ea, hwv⟩ : ∃ (a : Bool) (ea : Int), winsV n L C T rows = .tuple ⟨[.bool a, .int .i64 ea]⟩ := by
  unfold winsV; split
  ·exact ⟨_, _, rfl⟩
  ·exact ⟨_, _, rfl⟩
 obtain ⟨c, ec, hsv⟩ : ∃ (c : Bool) (ec : Int), spoilsV n L C T rows = .tuple ⟨[.bool c, .int .i64 ec]⟩ := by
  unfold spoilsV; split
  ·exact ⟨_, _, rfl⟩
  ·exact ⟨_, _, rfl⟩
 rw [hwv] at h8 h9
 rw [hsv] at h10 h11
 clear hwv hsv
 repeat (first|refine l_val rfl rfl (by first|exact pureEval_ok rfl|exact v_load rfl (by repeat constructor) rfl (by rfl)|fail) ?_|refine l_nil ?_|refine c_region ?_|refine c_seq ?_|refine x_then ?_|refine c_false rfl ?_|refine c_skip ?_|fail)
 refine r_call rfl rfl rfl (fun W hW => h8 _ W hW) ?_
 repeat (first|refine l_val rfl rfl (by first|exact pureEval_ok rfl|exact v_load rfl (by repeat constructor) rfl (by rfl)|fail) ?_|refine l_nil ?_|refine c_region ?_|refine c_seq ?_|refine x_then ?_|fail)
 refine r_call rfl rfl rfl (fun W hW => h9 _ W hW) ?_
 repeat (first|refine l_val rfl rfl (by first|exact pureEval_ok rfl|exact v_load rfl (by repeat constructor) rfl (by rfl)|fail) ?_|refine l_nil ?_|refine c_region ?_|refine c_seq ?_|refine x_then ?_|fail)
 refine r_call rfl rfl rfl (fun W hW => h10 _ W hW) ?_
 repeat (first|refine l_val rfl rfl (by first|exact pureEval_ok rfl|exact v_load rfl (by repeat constructor) rfl (by rfl)|fail) ?_|refine l_nil ?_|refine c_region ?_|refine c_seq ?_|refine x_then ?_|fail)
 refine r_call rfl rfl rfl (fun W hW => h11 _ W hW) ?_
 cases a with
 | true =>
  cases c with
  | true =>
   repeat (first|refine l_val rfl rfl (by first|exact pureEval_ok rfl|fail) ?_|refine l_nil ?_|refine c_region ?_|refine c_seq ?_|refine x_then ?_|refine c_ret ?_|refine l_dec_t rfl rfl rfl rfl rfl (by first|omega|fail) ?_|fail)
   simp only [eq_self, decide_true]
   exact x_ret rfl rfl (by repeat (first|exact .nil|(apply Res.tmp; rfl)|(apply Res.cell; rfl; exact (by repeat constructor); rfl; rfl))) rfl (fun W hW => ⟨rfl, hW.below⟩)
  | false =>
   repeat (first|refine l_val rfl rfl (by first|exact pureEval_ok rfl|fail) ?_|refine l_nil ?_|refine c_region ?_|refine c_seq ?_|refine x_then ?_|refine c_ret ?_|refine l_dec_t rfl rfl rfl rfl rfl (by first|omega|fail) ?_|fail)
   simp only [eq_self, decide_true]
   exact x_ret rfl rfl (by repeat (first|exact .nil|(apply Res.tmp; rfl)|(apply Res.cell; rfl; exact (by repeat constructor); rfl; rfl))) rfl (fun W hW => ⟨rfl, hW.below⟩)
 | false =>
  cases c with
  | true =>
   repeat (first|refine l_val rfl rfl (by first|exact pureEval_ok rfl|fail) ?_|refine l_nil ?_|refine c_region ?_|refine c_seq ?_|refine x_then ?_|refine c_ret ?_|refine l_dec_t rfl rfl rfl rfl rfl (by first|omega|fail) ?_|fail)
   simp only [eq_self, decide_true]
   exact x_ret rfl rfl (by repeat (first|exact .nil|(apply Res.tmp; rfl)|(apply Res.cell; rfl; exact (by repeat constructor); rfl; rfl))) rfl (fun W hW => ⟨rfl, hW.below⟩)
  | false =>
   repeat (first|refine l_val rfl rfl (by first|exact pureEval_ok rfl|fail) ?_|refine l_nil ?_|refine c_region ?_|refine c_seq ?_|refine x_then ?_|refine c_ret ?_|refine l_dec_t rfl rfl rfl rfl rfl (by first|omega|fail) ?_|fail)
   simp only [eq_self, decide_true]
   exact x_ret rfl rfl (by repeat (first|exact .nil|(apply Res.tmp; rfl)|(apply Res.cell; rfl; exact (by repeat constructor); rfl; rfl))) rfl (fun W hW => ⟨rfl, hW.below⟩)
end R24
end Go.Proofs
