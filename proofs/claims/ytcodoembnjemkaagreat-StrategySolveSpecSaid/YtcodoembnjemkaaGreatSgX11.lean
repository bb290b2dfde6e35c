/- Games on networks: the law SolveSpec. -/
import Derived.Test.YtcodoembnjemkaaGreatSgCnt
import Derived.Test.YtcodoembnjemkaaGreatSgSan
set_option maxRecDepth 100000
set_option maxHeartbeats 400000000
set_option linter.unusedSectionVars false
set_option linter.unusedVariables false
set_option linter.unusedSimpArgs false
namespace Go.Proofs
open Go.RowKit Go.Kin Go.Kin.St Go.Kin.Ct Go.Kin.Sg
namespace R24
theorem Solve_no (u : R23.Un) (T : Int) (w : World) (hA : u.In w) (hl : u.L.length <= 1000) (hc : u.C.length <= 1000) (h0 : chkS u.n u.L u.C T ≠ 0) :
  Calls Tryz.prog 12 ⟨[.agg ⟨u.v⟩, .int .i64 T]⟩ w fun e w' => e = .returned (noS (chkS u.n u.L u.C T)) /\ Below w.heap.size w w' := by
 have hck : ∀ (mem : List (Nat × Obj)) (W : World), SatW w (base w) noJ mem W -> Calls Tryz.prog 17 ⟨[.agg ⟨u.v⟩, .int .i64 T]⟩ W fun e w' => e = .returned (.int .i64 (chkS u.n u.L u.C T)) /\ Below W.heap.size W w' := fun mem W hW => CheckS_calls u T W (hA.sat hW) hl hc
 obtain ⟨n, A, ca, L, B, cb, C⟩ := u
 simp only [R23.Un.v] at hl hc hck h0 ⊢
 refine fEn Tryz.func12 rfl Tryz.ntmps12 rfl rfl (sWn w) ?_
 repeat (first|refine lVa rfl rfl (by first|exact pEv rfl|exact vLd rfl (by repeat constructor) rfl (by rfl)|fail) ?_|refine lNi ?_|refine cRg ?_|refine cSq ?_|refine xTh ?_|refine r_box rfl rfl rfl rfl (fun _ => ?_)|fail)
 refine r_call rfl rfl rfl (fun W hW => hck _ W hW) ?_
 repeat (first|refine lVa rfl rfl (by first|exact pEv rfl|fail) ?_|refine lNi ?_|refine cRg ?_|refine cSq ?_|refine xTh ?_|refine c_dec_t rfl (by first|omega|fail) ?_|refine c_ret ?_|refine xTr ?_|fail)
 exact x_ret rfl rfl (by repeat constructor) rfl (fun W hW => ⟨rfl, hW.below⟩)
theorem Spoil_no (u : R23.Un) (T : Int) (w : World) (hA : u.In w) (hl : u.L.length <= 1000) (hc : u.C.length <= 1000) (h0 : chkS u.n u.L u.C T ≠ 0) :
  Calls Tryz.prog 13 ⟨[.agg ⟨u.v⟩, .int .i64 T]⟩ w fun e w' => e = .returned (noS (chkS u.n u.L u.C T)) /\ Below w.heap.size w w' := by
 have hck : ∀ (mem : List (Nat × Obj)) (W : World), SatW w (base w) noJ mem W -> Calls Tryz.prog 17 ⟨[.agg ⟨u.v⟩, .int .i64 T]⟩ W fun e w' => e = .returned (.int .i64 (chkS u.n u.L u.C T)) /\ Below W.heap.size W w' := fun mem W hW => CheckS_calls u T W (hA.sat hW) hl hc
 obtain ⟨n, A, ca, L, B, cb, C⟩ := u
 simp only [R23.Un.v] at hl hc hck h0 ⊢
 refine fEn Tryz.func13 rfl Tryz.ntmps13 rfl rfl (sWn w) ?_
 repeat (first|refine lVa rfl rfl (by first|exact pEv rfl|exact vLd rfl (by repeat constructor) rfl (by rfl)|fail) ?_|refine lNi ?_|refine cRg ?_|refine cSq ?_|refine xTh ?_|refine r_box rfl rfl rfl rfl (fun _ => ?_)|fail)
 refine r_call rfl rfl rfl (fun W hW => hck _ W hW) ?_
 repeat (first|refine lVa rfl rfl (by first|exact pEv rfl|fail) ?_|refine lNi ?_|refine cRg ?_|refine cSq ?_|refine xTh ?_|refine c_dec_t rfl (by first|omega|fail) ?_|refine c_ret ?_|refine xTr ?_|fail)
 exact x_ret rfl rfl (by repeat constructor) rfl (fun W hW => ⟨rfl, hW.below⟩)
theorem sol_sl (i : SolI) : ∃ A c, i.v = .slice A i.rows.length c := gSl_len
theorem rdC_4096 {n : Int} {L C : List Lk} {T : Int} {rows : List DW} (h : rdC n L C T rows = 0) : rows.length <= 4096 := by
 by_cases h2 : 4096 < rows.length
 ·rw [rdC_2 (rdC_ok h).1 h2] at h; cases h
 ·omega
theorem law4 (u : R23.Un) (T : Int) (w : World) (hA : u.In w) :
  Calls Tryz.prog 4 ⟨[.agg ⟨u.v⟩, .int .i64 T]⟩ w fun e w' => e = .returned (.bool true) /\ Below w.heap.size w w' := by
 have hfew : ∀ (mem : List (Nat × Obj)) (W : World), SatW w (base w) noJ mem W -> Calls Tryz.prog 6 ⟨[.agg ⟨u.v⟩, .int .i64 T]⟩ W fun e w' => e = .returned (.bool (fwB u.n u.L u.C T)) /\ Below W.heap.size W w' := fun mem W hW => FewS_calls u T W (hA.sat hW)
 have hslv : u.L.length <= 1000 -> u.C.length <= 1000 -> ∀ (mem : List (Nat × Obj)) (W : World), SatW w (base w) noJ mem W -> Calls Tryz.prog 14 ⟨[.agg ⟨u.v⟩, .int .i64 T]⟩ W fun e w' => e = .returned (slvV u.n u.L u.C T) /\ Below W.heap.size W w' := fun hl hc mem W hW => Solved_calls u T W (hA.sat hW) hl hc
 have hs12 : u.L.length <= 1000 -> u.C.length <= 1000 -> chkS u.n u.L u.C T ≠ 0 -> ∀ (mem : List (Nat × Obj)) (W : World), SatW w (base w) noJ mem W -> Calls Tryz.prog 12 ⟨[.agg ⟨u.v⟩, .int .i64 T]⟩ W fun e w' => e = .returned (noS (chkS u.n u.L u.C T)) /\ Below W.heap.size W w' := fun hl hc h0 mem W hW => Solve_no u T W (hA.sat hW) hl hc h0
 have hs13 : u.L.length <= 1000 -> u.C.length <= 1000 -> chkS u.n u.L u.C T ≠ 0 -> ∀ (mem : List (Nat × Obj)) (W : World), SatW w (base w) noJ mem W -> Calls Tryz.prog 13 ⟨[.agg ⟨u.v⟩, .int .i64 T]⟩ W fun e w' => e = .returned (noS (chkS u.n u.L u.C T)) /\ Below W.heap.size W w' := fun hl hc h0 mem W hW => Spoil_no u T W (hA.sat hW) hl hc h0
 have hwi : u.L.length <= 1000 -> u.C.length <= 1000 -> ∀ {S : Option Addr} {cs : Nat} {rows : List DW} (mem : List (Nat × Obj)) (W : World), SatW w (base w) noJ mem W -> StrIn W S rows -> rows.length <= 1000000 -> (∀ r ∈ rows, r.l.length <= 1000 /\ r.d.length <= 1000) -> Calls Tryz.prog 9 ⟨[.agg ⟨u.v⟩, .int .i64 T, .slice S rows.length cs]⟩ W fun e w' => e = .returned (winsV u.n u.L u.C T rows) /\ Below W.heap.size W w' := fun hl hc S cs rows mem W hW hS hr hd => WinsR_calls u T S cs rows W (hA.sat hW) hl hc hS hr hd
 have hsp : u.L.length <= 1000 -> u.C.length <= 1000 -> ∀ {S : Option Addr} {cs : Nat} {rows : List DW} (mem : List (Nat × Obj)) (W : World), SatW w (base w) noJ mem W -> StrIn W S rows -> rows.length <= 1000000 -> (∀ r ∈ rows, r.l.length <= 1000 /\ r.d.length <= 1000) -> Calls Tryz.prog 11 ⟨[.agg ⟨u.v⟩, .int .i64 T, .slice S rows.length cs]⟩ W fun e w' => e = .returned (spoilsV u.n u.L u.C T rows) /\ Below W.heap.size W w' := fun hl hc S cs rows mem W hW hS hr hd => SpoilsR_calls u T S cs rows W (hA.sat hW) hl hc hS hr hd
 have hAA : ∀ (mem : List (Nat × Obj)) (W : World), SatW w (base w) noJ mem W -> u.In W := fun mem W hW => hA.sat hW
 obtain ⟨n, A, ca, L, B, cb, C⟩ := u
 simp only [R23.Un.v] at hfew hslv hs12 hs13 hwi hsp ⊢
 refine fEn Tryz.func4 rfl Tryz.ntmps4 rfl rfl (sWn w) ?_
 repeat (first|refine lVa rfl rfl (by first|exact pEv rfl|fail) ?_|refine lNi ?_|refine cRg ?_|refine cSq ?_|refine xTh ?_|refine r_box rfl rfl rfl rfl (fun _ => ?_)|fail)
 refine r_call rfl rfl rfl (fun W hW => sane_calls W) ?_
 repeat (first|refine lVa rfl rfl (by first|exact pEv rfl|exact vLd rfl (by repeat constructor) rfl (by rfl)|fail) ?_|refine lNi ?_|refine cRg ?_|refine cSq ?_|refine xTh ?_|refine c_false rfl ?_|refine cSk ?_|fail)
 refine r_call rfl rfl rfl (fun W hW => hfew _ W hW) ?_
 cases hf : fwB n L C T with
 | false =>
  repeat (first|refine lVa rfl rfl (by first|exact pEv rfl|fail) ?_|refine lNi ?_|refine cRg ?_|refine cSq ?_|refine xTh ?_|refine c_true rfl ?_|refine c_ret ?_|refine xTr ?_|fail)
  exact x_ret rfl rfl (by repeat constructor) rfl (fun W hW => ⟨rfl, hW.below⟩)
 | true =>
 obtain ⟨hl, hc, hfw⟩ := fwB_ok hf
 have hslv := hslv (by omega) (by omega)
 have hwi := fun {S cs rows} => hwi (by omega) (by omega) (S := S) (cs := cs) (rows := rows)
 have hsp := fun {S cs rows} => hsp (by omega) (by omega) (S := S) (cs := cs) (rows := rows)
 by_cases h0 : chkS n L C T = 0
 rotate_left
 ·have hs12 := hs12 (by omega) (by omega) h0
  have hs13 := hs13 (by omega) (by omega) h0
  have hv : slvV n L C T = .tuple ⟨[.bool false, .int .i64 (chkS n L C T)]⟩ := by unfold slvV; rw [if_pos h0]
  rw [hv] at hslv
  obtain ⟨cc, hcc⟩ : ∃ cc, chkS n L C T = cc := ⟨_, rfl⟩
  rw [hcc] at hs12 hs13 hslv h0
  clear hwi hsp hfw
  repeat (first|refine lVa rfl rfl (by first|exact pEv rfl|exact vLd rfl (by repeat constructor) rfl (by rfl)|fail) ?_|refine lNi ?_|refine cRg ?_|refine cSq ?_|refine xTh ?_|refine c_false rfl ?_|refine cSk ?_|fail)
  refine r_call rfl rfl rfl (fun W hW => hs12 _ W hW) ?_
  unfold noS
  repeat (first|refine lVa rfl rfl (by first|exact pEv rfl|exact vLd rfl (by repeat constructor) rfl (by rfl)|fail) ?_|refine lNi ?_|refine cRg ?_|refine cSq ?_|refine xTh ?_|fail)
  refine r_call rfl rfl rfl (fun W hW => hs13 _ W hW) ?_
  unfold noS
  repeat (first|refine lVa rfl rfl (by first|exact pEv rfl|exact vLd rfl (by repeat constructor) rfl (by rfl)|fail) ?_|refine lNi ?_|refine cRg ?_|refine cSq ?_|refine xTh ?_|fail)
  refine r_call rfl rfl rfl (fun W hW => hslv _ W hW) ?_
  repeat (first|refine lVa rfl rfl (by first|exact pEv rfl|fail) ?_|refine lNi ?_|refine cRg ?_|refine cSq ?_|refine xTh ?_|refine l_skip rfl rfl ?_|refine c_false rfl ?_|refine cSk ?_|refine c_ret ?_|refine l_dec_f rfl rfl rfl rfl rfl (by first|omega|fail) ?_|fail)
  exact x_ret rfl rfl (by repeat constructor) rfl (fun W hW => ⟨rfl, hW.below⟩)
 clear hs12 hs13
 obtain ⟨k0, t1, t2, t3, t4, t5⟩ := chkS_ok h0
 obtain ⟨n1, n2⟩ := R23.chkU_ok k0
 obtain ⟨t, rfl⟩ : ∃ t : Nat, T = t := ⟨T.toNat, by omega⟩
 obtain ⟨N, rfl⟩ : ∃ N : Nat, n = N := ⟨n.toNat, by omega⟩
 have hfw2 := hfw h0
 rw [Int.toNat_natCast, Int.toNat_natCast] at hfw2
 have hsv : slvV N L C t = .tuple ⟨[.bool (vP ⟨N, t, L, C⟩ (t + 1) 0 (List.replicate N 0)), .int .i64 0]⟩ := by unfold slvV; rw [if_neg (fun g => g h0), Int.toNat_natCast, Int.toNat_natCast]
 rw [hsv] at hslv
 have hvp : vP ⟨N, t, L, C⟩ (t + 1) 0 (List.replicate N 0) = true ↔ Vt ⟨N, t, L, C⟩ 0 (List.replicate N 0) := vP_iff
 repeat (first|refine lVa rfl rfl (by first|exact pEv rfl|exact vLd rfl (by repeat constructor) rfl (by rfl)|fail) ?_|refine lNi ?_|refine cRg ?_|refine cSq ?_|refine xTh ?_|refine c_false rfl ?_|refine cSk ?_|fail)
 by_cases hv : Vt ⟨N, t, L, C⟩ 0 (List.replicate N 0)
 ·rw [hvp.2 hv] at hslv
  refine r_callL (ι := { i : SolI // i.OK ⟨N, t, L, C⟩ (adD ⟨N, t, L, C⟩) (nxD ⟨N, t, L, C⟩) }) (v := fun i => yesS i.1) (ms := fun i => i.1.m) rfl rfl rfl (fun W hW => (Solve_calls N t A B ca cb L C W (hAA _ W hW) (by omega) (by omega) h0 hfw2).mono ?_) ?_
  ·rintro e w' ⟨g1, g2⟩
   rcases g2 with ⟨g3, _⟩ | ⟨_, i, g4, g5, g6, g7⟩
   ·exact absurd hv g3
   ·exact ⟨⟨i, g4⟩, g5, g1, g6, g7⟩
  rintro ⟨i, hi⟩
  simp only
  obtain ⟨q1, q2⟩ := sol_read h0 hfw2 hv hi
  obtain ⟨hlen, hrows⟩ := rdC_small q1
  have h4 := rdC_4096 q1
  obtain ⟨Ai, ci, hAi⟩ := sol_sl i
  have hln : (i.rows.map drW).length = i.rows.length := List.length_map ..
  rw [hln] at h4
  unfold yesS
  rw [hAi]
  refine l_perm List.perm_append_comm ?_
  simp only [List.cons_append, List.nil_append]
  repeat (first|refine lVa rfl rfl (by first|exact pEv rfl|exact vLd rfl (by repeat constructor) rfl (by rfl)|fail) ?_|refine lNi ?_|refine cRg ?_|refine cSq ?_|refine xTh ?_|fail)
  refine r_call (v := noS 0) rfl rfl rfl (fun W hW => (Spoil_calls N t A B ca cb L C W (hAA _ W hW) (by omega) (by omega) h0 hfw2).mono ?_) ?_
  ·rintro e w' ⟨g1, g2⟩
   rcases g2 with ⟨_, g3⟩ | ⟨g3, _⟩
   ·exact ⟨g3, g1⟩
   ·exact absurd hv g3
  unfold noS
  repeat (first|refine lVa rfl rfl (by first|exact pEv rfl|exact vLd rfl (by repeat constructor) rfl (by rfl)|fail) ?_|refine lNi ?_|refine cRg ?_|refine cSq ?_|refine xTh ?_|fail)
  refine r_call rfl rfl rfl (fun W hW => hslv _ W hW) ?_
  repeat (first|refine lVa rfl rfl (by first|exact pEv rfl|exact vLd rfl (by repeat constructor) rfl (by rfl)|fail) ?_|refine lNi ?_|refine cRg ?_|refine cSq ?_|refine xTh ?_|refine l_skip rfl rfl ?_|refine c_true rfl ?_|refine c_false rfl ?_|refine cSk ?_|refine l_dec_f rfl rfl rfl rfl rfl (by first|omega|exact fun h => h rfl|fail) ?_|fail)
  refine r_call (v := .tuple ⟨[.bool true, .int .i64 0]⟩) rfl rfl rfl (fun W hW => ?_) ?_
  ·obtain ⟨A1, c', hA1, hS1⟩ := strIn_own hi (fun p hp => (hW.own p (List.mem_cons_of_mem _ hp)).2)
   have := hwi (cs := c') _ W hW hS1 (by omega) hrows
   rw [<- hA1, winsV_yes q1, q2, hAi] at this
   exact this
  repeat (first|refine lVa rfl rfl (by first|exact pEv rfl|fail) ?_|refine lNi ?_|refine cRg ?_|refine cSq ?_|refine xTh ?_|refine c_ret ?_|refine xTr ?_|fail)
  exact x_ret rfl rfl (by repeat constructor) rfl (fun W hW => ⟨rfl, hW.below⟩)
 ·have hvf : vP ⟨N, t, L, C⟩ (t + 1) 0 (List.replicate N 0) = false := by
   cases h : vP ⟨N, t, L, C⟩ (t + 1) 0 (List.replicate N 0) with
   | false => rfl
   | true => exact absurd (hvp.1 h) hv
  rw [hvf] at hslv
  refine r_call (v := noS 0) rfl rfl rfl (fun W hW => (Solve_calls N t A B ca cb L C W (hAA _ W hW) (by omega) (by omega) h0 hfw2).mono ?_) ?_
  ·rintro e w' ⟨g1, g2⟩
   rcases g2 with ⟨_, g3⟩ | ⟨g3, _⟩
   ·exact ⟨g3, g1⟩
   ·exact absurd g3 hv
  unfold noS
  repeat (first|refine lVa rfl rfl (by first|exact pEv rfl|exact vLd rfl (by repeat constructor) rfl (by rfl)|fail) ?_|refine lNi ?_|refine cRg ?_|refine cSq ?_|refine xTh ?_|fail)
  refine r_callL (ι := { i : SolI // i.OK ⟨N, t, L, C⟩ (adO ⟨N, t, L, C⟩) (nxO ⟨N, t, L, C⟩) }) (v := fun i => yesS i.1) (ms := fun i => i.1.m) rfl rfl rfl (fun W hW => (Spoil_calls N t A B ca cb L C W (hAA _ W hW) (by omega) (by omega) h0 hfw2).mono ?_) ?_
  ·rintro e w' ⟨g1, g2⟩
   rcases g2 with ⟨g3, _⟩ | ⟨_, i, g4, g5, g6, g7⟩
   ·exact absurd hv g3
   ·exact ⟨⟨i, g4⟩, g5, g1, g6, g7⟩
  rintro ⟨i, hi⟩
  simp only
  obtain ⟨q1, q2⟩ := spo_read h0 hfw2 hv hi
  obtain ⟨hlen, hrows⟩ := rdC_small q1
  have h4 := rdC_4096 q1
  obtain ⟨Ai, ci, hAi⟩ := sol_sl i
  have hln : (i.rows.map drW).length = i.rows.length := List.length_map ..
  rw [hln] at h4
  unfold yesS
  rw [hAi]
  refine l_perm List.perm_append_comm ?_
  simp only [List.cons_append, List.nil_append]
  repeat (first|refine lVa rfl rfl (by first|exact pEv rfl|exact vLd rfl (by repeat constructor) rfl (by rfl)|fail) ?_|refine lNi ?_|refine cRg ?_|refine cSq ?_|refine xTh ?_|fail)
  refine r_call rfl rfl rfl (fun W hW => hslv _ W hW) ?_
  repeat (first|refine lVa rfl rfl (by first|exact pEv rfl|exact vLd rfl (by repeat constructor) rfl (by rfl)|fail) ?_|refine lNi ?_|refine cRg ?_|refine cSq ?_|refine xTh ?_|refine l_skip rfl rfl ?_|refine c_true rfl ?_|refine c_false rfl ?_|refine c_dec_f rfl (by first|omega|fail) ?_|refine cSk ?_|fail)
  refine r_call (v := .tuple ⟨[.bool true, .int .i64 0]⟩) rfl rfl rfl (fun W hW => ?_) ?_
  ·obtain ⟨A1, c', hA1, hS1⟩ := strIn_own hi (fun p hp => (hW.own p (List.mem_cons_of_mem _ hp)).2)
   have := hsp (cs := c') _ W hW hS1 (by omega) hrows
   rw [<- hA1, spoilsV_yes q1, q2, hAi] at this
   exact this
  repeat (first|refine lVa rfl rfl (by first|exact pEv rfl|fail) ?_|refine lNi ?_|refine cRg ?_|refine cSq ?_|refine xTh ?_|refine c_ret ?_|refine xTr ?_|fail)
  exact x_ret rfl rfl (by repeat constructor) rfl (fun W hW => ⟨rfl, hW.below⟩)
end R24
end Go.Proofs
