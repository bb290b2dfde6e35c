/- Games on networks: the specification's Play answers as the program's. -/
import Derived.Test.YtcodoembnjemkaaSgQj
import Derived.Test.YtcodoembnjemkaaSgQf
import Derived.Test.YtcodoembnjemkaaEng27
set_option maxRecDepth 100000
set_option maxHeartbeats 400000000
set_option linter.unusedSectionVars false
set_option linter.unusedVariables false
set_option linter.unusedSimpArgs false
namespace Go.Proofs
open Go.RowKit Go.Kin Go.Kin.St Go.Kin.Ct Go.Kin.Sg
namespace R24
theorem flat_zero (n : Nat) : (flat n fun _ => cellsL (.int .i64 0)) = flI (List.replicate n 0) := by
 have h : ∀ n, (List.range n).flatMap (fun _ => cellsL (.int .i64 0)) = List.replicate n (.int .i64 0) := fun n => by
  induction n with
  | zero => rfl
  | succ n ih => rw [List.range_succ, List.flatMap_append, ih, List.replicate_succ']; rfl
 rw [flI_eq, List.map_replicate]
 exact h n
theorem PlayR_calls (u : R23.Un) (T : Int) (S : Option Addr) (cs : Nat) (rows : List DW) (A5 : Option Addr) (cw : Nat) (wt : List Int) (w : World) (hA : u.In w) (hl : u.L.length <= 1000) (hc : u.C.length <= 1000) (hS : StrIn w S rows) (hrl : rows.length <= 1000000) (hdl : ∀ r ∈ rows, r.l.length <= 1000 /\ r.d.length <= 1000) (hwA : At w A5 1 (wt.map inE)) :
  Calls Try.prog 12 ⟨[.agg ⟨u.v⟩, .int .i64 T, .slice S rows.length cs, .slice A5 wt.length cw]⟩ w (PlQ u.n u.L u.C T rows wt w) := by
 have hrd : ∀ (mem : List (Nat × Obj)) (W : World), SatW w (base w) noJ mem W -> Calls Try.prog 36 ⟨[.agg ⟨u.v⟩, .int .i64 T, .slice S rows.length cs]⟩ W fun e w' => e = .returned (.int .i64 (rdC u.n u.L u.C T rows)) /\ Below W.heap.size W w' := fun mem W hW =>
  ckS36_calls u T S cs rows W (hA.sat hW) hl hc (hS.later hW.below) hrl fun r hr => by have := hdl r hr; omega
 have hAl := hA.l
 have hAc := hA.c
 obtain ⟨n, A, ca, L, B, cb, C⟩ := u
 simp only [R23.Un.v] at hl hc hrd ⊢
 simp only at hAl hAc
 refine fun_enter Try.func12 rfl Try.ntmps12 rfl rfl (satW_nil w) ?_
 repeat (first|refine l_val rfl rfl (by first|exact pureEval_ok rfl|exact v_load rfl (by repeat constructor) rfl (by rfl)|fail) ?_|refine l_nil ?_|refine c_region ?_|refine c_seq ?_|refine x_then ?_|refine r_box rfl rfl rfl rfl (fun _ => ?_)|fail)
 refine r_call rfl rfl rfl (fun W hW => hrd _ W hW) ?_
 by_cases h0 : rdC n L C T rows = 0
 rotate_left
 ·repeat (first|refine l_val rfl rfl (by first|exact pureEval_ok rfl|fail) ?_|refine l_nil ?_|refine c_region ?_|refine c_seq ?_|refine x_then ?_|refine c_dec_t rfl (by first|omega|fail) ?_|refine c_ret ?_|refine x_then_ret ?_|fail)
  exact x_ret rfl rfl (by repeat (first|exact .nil|(apply Res.tmp; rfl)|(apply Res.cell; rfl; exact (by repeat constructor); rfl; rfl))) rfl (fun W hW => ⟨hW.below, .inl ⟨by rw [plc_a h0]; exact h0, by rw [plc_a h0]⟩⟩)
 obtain ⟨hck, hok⟩ := rdC_ok h0
 obtain ⟨c0, t1, t2, t3, t4, t5⟩ := chkS_ok hck
 obtain ⟨n1, n2⟩ := R23.chkU_ok c0
 obtain ⟨t, rfl⟩ : ∃ t : Nat, T = t := ⟨T.toNat, by omega⟩
 obtain ⟨N, rfl⟩ : ∃ N : Nat, n = N := ⟨n.toNat, by omega⟩
 rw [Int.toNat_natCast, Int.toNat_natCast] at hok
 obtain ⟨hn0, hCC⟩ := (tree_gok (A := A) (B := B) (ca := ca) (cb := cb) (m := 0) hck).2
 have hn6 : N <= 6 := (tree_gok (A := A) (B := B) (ca := ca) (cb := cb) (m := 0) hck).1.n
 have hC2 : ∀ x ∈ C, 0 <= x.fr /\ x.fr < N := fun x hx => by
  obtain ⟨i, hi, e⟩ := List.mem_iff_getElem.1 hx
  have := (hCC i x (by rw [List.getElem?_eq_getElem hi, e])).1
  exact ⟨this.1, this.2.1⟩
 have hr4 : rows.length <= 4096 := by
  by_cases h : 4096 < rows.length
  ·rw [rdC_2 hck h] at h0; cases h0
  ·omega
 rw [h0]
 by_cases hlen : wt.length = C.length
 rotate_left
 ·have hne : (wt.length : Int) ≠ C.length := by omega
  have hp := plc_1 (n := N) (T := t) (L := L) (C := C) (rows := rows) (wt := wt) h0 (fun h => hlen h.1)
  repeat (first|refine l_val rfl rfl (by first|exact pureEval_ok rfl|exact v_load rfl (by repeat constructor) rfl (by rfl)|fail) ?_|refine l_nil ?_|refine c_region ?_|refine c_seq ?_|refine x_then ?_|refine c_false rfl ?_|refine c_dec_t rfl (by first|omega|fail) ?_|refine c_skip ?_|refine c_ret ?_|refine x_then_ret ?_|fail)
  exact x_ret rfl rfl (by repeat (first|exact .nil|(apply Res.tmp; rfl)|(apply Res.cell; rfl; exact (by repeat constructor); rfl; rfl))) rfl (fun W hW => ⟨hW.below, .inl ⟨by rw [hp]; decide, by rw [hp]⟩⟩)
 have hlenI : ¬ (wt.length : Int) ≠ C.length := by omega
 repeat (first|refine l_val rfl rfl (by first|exact pureEval_ok rfl|exact v_load rfl (by repeat constructor) rfl (by rfl)|fail) ?_|refine l_nil ?_|refine c_region ?_|refine c_seq ?_|refine x_then ?_|refine c_false rfl ?_|refine c_dec_f rfl (by first|omega|fail) ?_|refine c_block ?_|refine c_skip ?_|fail)
 rename_i b4
 refine c_loop (ι := Nat) (fun i => i <= C.length /\ ∀ j x, j < i -> C[j]? = some x -> x.lo <= wt.getD j 0 /\ wt.getD j 0 <= x.hi) (fun i => [(1, .int .i64 t), (2, .slice S rows.length cs), (3, .slice A5 wt.length cw), (4, .pointer (some ⟨b4, 0, none⟩)), (11, .int .i64 i)])
  (fun _ => [(b4, .cells ⟨[.int .i64 N, .slice A L.length ca, .slice B C.length cb]⟩ 24 (0, 0))]) (fun i => C.length - i) 0 ⟨Nat.zero_le _, fun j x hj => absurd hj (Nat.not_lt_zero _)⟩ (by repeat (first|exact .nil|refine .cons rfl (by first|rfl|(congr 1; done)|exact congrArg _ (by omega)|(simp; done)) ?_)) (by repeat (first|exact .nil|refine .keep (by first|rfl|assumption) ?_|refine .drop ?_|exact MSub.refl _)) ?_
 rintro i ⟨hi, hF⟩
 by_cases hlt : i < C.length
 ·obtain ⟨x, hx⟩ : ∃ x, C[i]? = some x := ⟨_, List.getElem?_eq_getElem hlt⟩
  obtain ⟨v, hv⟩ : ∃ v, wt[i]? = some v := ⟨_, List.getElem?_eq_getElem (by omega)⟩
  have hgd : wt.getD i 0 = v := by rw [List.getD_eq_getElem?_getD, hv]; rfl
  obtain ⟨bB, oB, rfl, hcB⟩ := hAc i (lkE x) (by rw [List.getElem?_map, hx]; rfl)
  obtain ⟨bW, oW, rfl, hcW⟩ := hwA i (inE v) (by rw [List.getElem?_map, hv]; rfl)
  have eB := ext_of hcB
  have eW := ext_of hcW
  rw [Nat.mul_one] at eW
  have hno : ¬ (x.lo <= v /\ v <= x.hi) -> plc N L C t rows wt = 1 := fun h => plc_1 h0 fun g => h (by have := g.2 i x hx; rw [hgd] at this; exact this)
  by_cases h1 : v < x.lo
  ·have hp := hno (by omega)
   repeat (first|refine l_val rfl rfl (by first|exact pureEval_ok rfl|fail) ?_|refine l_nil ?_|refine c_region ?_|refine c_seq ?_|refine x_then ?_|refine c_true rfl ?_|refine c_dec_t rfl (by first|omega|fail) ?_|refine c_block ?_|refine c_skip ?_|refine c_ret ?_|refine x_then_ret ?_|refine x_block_ret ?_|refine c_reads rfl (by decide +kernel) ?_|refine q_val rfl rfl (by first|exact pureEval_ok rfl|exact v_load rfl (by repeat constructor) rfl (by rfl)|exact v_load_ext0 rfl (by assumption) rfl (by rfl)|exact v_load_ext rfl (by assumption) rfl (by rfl)|exact v_index rfl rfl rfl rfl (by omega) (by omega) (by with_reducible first|exact idx2 _ _|exact idx4 _ _ _|fail)|fail) ?_|refine q_nil ?_|refine q_skip rfl rfl ?_|refine q_dec_t rfl rfl rfl rfl (by first|omega|fail) ?_|fail)
   exact x_ret rfl rfl (by repeat (first|exact .nil|(apply Res.tmp; rfl)|(apply Res.cell; rfl; exact (by repeat constructor); rfl; rfl))) rfl (fun W hW => ⟨hW.below, .inl ⟨by rw [hp]; decide, by rw [hp]⟩⟩)
  ·by_cases h2 : x.hi < v
   ·have hp := hno (by omega)
    repeat (first|refine l_val rfl rfl (by first|exact pureEval_ok rfl|fail) ?_|refine l_nil ?_|refine c_region ?_|refine c_seq ?_|refine x_then ?_|refine c_dec_t rfl (by first|omega|fail) ?_|refine c_block ?_|refine c_skip ?_|refine c_ret ?_|refine x_then_ret ?_|refine x_block_ret ?_|refine c_reads rfl (by decide +kernel) ?_|refine q_val rfl rfl (by first|exact pureEval_ok rfl|exact v_load rfl (by repeat constructor) rfl (by rfl)|exact v_load_ext0 rfl (by assumption) rfl (by rfl)|exact v_load_ext rfl (by assumption) rfl (by rfl)|exact v_index rfl rfl rfl rfl (by omega) (by omega) (by with_reducible first|exact idx2 _ _|exact idx4 _ _ _|fail)|fail) ?_|refine q_nil ?_|refine q_dec_f rfl rfl rfl rfl (by first|omega|fail) ?_|fail)
    exact x_ret rfl rfl (by repeat (first|exact .nil|(apply Res.tmp; rfl)|(apply Res.cell; rfl; exact (by repeat constructor); rfl; rfl))) rfl (fun W hW => ⟨hW.below, .inl ⟨by rw [hp]; decide, by rw [hp]⟩⟩)
   ·clear hno
    repeat (first|refine l_val rfl rfl (by first|exact v_add rfl rfl (by omega) (by omega)|exact pureEval_ok rfl|fail) ?_|refine l_nil ?_|refine c_region ?_|refine c_seq ?_|refine x_then ?_|refine c_dec_t rfl (by first|omega|fail) ?_|refine c_dec_f rfl (by first|omega|fail) ?_|refine c_block ?_|refine c_skip ?_|refine x_block ?_|refine c_reads rfl (by decide +kernel) ?_|refine q_val rfl rfl (by first|exact pureEval_ok rfl|exact v_load rfl (by repeat constructor) rfl (by rfl)|exact v_load_ext0 rfl (by assumption) rfl (by rfl)|exact v_load_ext rfl (by assumption) rfl (by rfl)|exact v_index rfl rfl rfl rfl (by omega) (by omega) (by with_reducible first|exact idx2 _ _|exact idx4 _ _ _|fail)|fail) ?_|refine q_nil ?_|refine q_dec_f rfl rfl rfl rfl (by first|omega|fail) ?_|fail)
    refine x_back (i + 1) ⟨hlt, fun j y hj hy => ?_⟩ (by omega) (by repeat (first|exact .nil|refine .cons rfl (by first|rfl|(congr 1; done)|exact congrArg _ (by omega)|(simp; done)) ?_)) (by repeat (first|exact .nil|refine .keep (by first|rfl|assumption) ?_|refine .drop ?_|exact MSub.refl _))
    by_cases hji : j < i
    ·exact hF j y hji hy
    ·have e : j = i := by omega
     subst e
     rw [hx] at hy; cases hy
     rw [hgd]; omega
 have hwOK : wt.length = C.length /\ ∀ i x, C[i]? = some x -> x.lo <= wt.getD i 0 /\ wt.getD i 0 <= x.hi := ⟨hlen, fun j x hx => hF j x (by have := (List.getElem?_eq_some_iff.1 hx).1; omega) hx⟩
 have hp0 := plc_0 (n := N) (T := t) (L := L) h0 hwOK
 clear hF
 obtain ⟨l0, hl0⟩ : ∃ l0 : List Int, List.replicate N 0 = l0 := ⟨_, rfl⟩
 have hl0n : l0.length = N := by rw [<- hl0, List.length_replicate]
 obtain ⟨pa, hpa⟩ : ∃ pa, plA ⟨N, t, L, C⟩ wt (tabW rows) = pa := ⟨_, rfl⟩
 have hpan : pa.length = N := by rw [<- hpa]; unfold plA; rw [plF_len, List.length_replicate]
 have hil : i = C.length := by omega
 repeat ((fail_if_success refine c_probe (id := 11) ?_); (fail_if_success refine c_probe1 (id := 11) ?_); first|refine l_val rfl rfl (by first|exact pureEval_ok rfl|fail) ?_|refine l_nil ?_|refine c_region ?_|refine c_seq ?_|refine x_then ?_|refine c_dec_f rfl (by first|omega|fail) ?_|refine c_exit ?_|refine x_then_exit ?_|refine x_block_same ?_|fail)
 refine c_seq ?_
 refine c_new 0 2 [(6, .new 0), (7, .calA 1 1 pa.length (flI pa) 3)] [(6, [0]), (7, [1])] [(7, 0)] rfl (by decide +kernel) rfl ?_
 repeat (first|refine e_val rfl rfl rfl rfl (by first|exact pureEval_ok rfl|exact v_load rfl (by repeat constructor) rfl (by rfl)|fail) ?_|fail)
 refine e_new rfl rfl rfl rfl (n_make (n := N) rfl rfl rfl rfl rfl (by omega) (by omega) rfl rfl ((flat_zero N).trans (by rw [hl0]))) (fun bk => ?_)
 refine e_callA rfl rfl rfl rfl rfl (by decide) flI_len (by unfold maxLen; omega) rfl (fun W hW => ?_) (fun b1 c1 r1 hgr => ?_)
 ·have hat : At W (some ⟨bk, 0, none⟩) 1 (l0.map inE) := at_flI (r := []) hW (by rw [List.append_nil]; exact (by repeat constructor))
  have := play37_calls N A ca L B cb C t S cs rows A5 cw wt hn0 (by omega) (by omega) hc hC2 hr4 hok (fun r hr => (hdl r hr).2) hlen hwOK.2 t 0 (some ⟨bk, 0, none⟩) N l0 W (by omega) (hA.sat hW) (hS.sat hW) (hwA.sat hW) hat hl0n (fun q => by rw [<- hl0, kn_zero]; exact ⟨Int.le_refl _, Int.le_refl _⟩)
  rw [<- hl0] at this
  have h2 : plF ⟨N, t, L, C⟩ wt (tabW rows) (t + 1) 0 (List.replicate N 0) = pa := hpa
  rw [h2, List.length_replicate] at this
  exact this
 repeat (first|refine x_then ?_|refine c_ret ?_|refine e_val rfl rfl rfl rfl (by first|exact pureEval_ok rfl|fail) ?_|refine e_nil rfl ?_|fail)
 refine x_ret rfl rfl (by repeat (first|exact .nil|(apply Res.tmp; rfl)|(apply Res.cell; rfl; exact (by repeat constructor); rfl; rfl))) rfl (fun W hW => ⟨hW.below, .inr ⟨hp0, ⟨b1, c1, r1⟩, ?_, ?_⟩⟩)
 ·rw [Int.toNat_natCast, Int.toNat_natCast, hpa]
 ·have h := hW.own (b1, .cells ⟨flI pa ++ r1⟩ 3 (0, 0)) (by repeat constructor)
  rw [Int.toNat_natCast, Int.toNat_natCast, hpa]
  exact ⟨Nat.le_of_not_lt h.1, h.2⟩
end R24
end Go.Proofs
