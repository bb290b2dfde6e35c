/- Uncertain networks: the program's check. -/
import Derived.Test.YtcodoembnjemkaaGreatCtG
import Derived.Test.YtcodoembnjemkaaGreatSgB
import Derived.Test.YtcodoembnjemkaaGreatSgChk
import Derived.Test.YtcodoembnjemkaaGreatCtRow
import Derived.Test.YtcodoembnjemkaaGreatGenCell
import Derived.Test.YtcodoembnjemkaaGreatEng8
set_option maxRecDepth 100000
set_option maxHeartbeats 400000000
set_option linter.unusedSectionVars false
set_option linter.unusedVariables false
set_option linter.unusedSimpArgs false
namespace Go.Proofs
open Go.RowKit Go.Kin Go.Kin.St Go.Kin.Ct
open R22
namespace R23
/-- what check answers -/
def ChkQ (n : Int) (L C : List Lk) (w : World) (e : Ending) (w' : World) : Prop :=
 Below w.heap.size w w' /\ ((chkU n L C = 0 /\ e = .returned (.tuple ⟨[.agg ⟨theTree C n.toNat⟩, .int .i64 0]⟩)) ∨ (chkU n L C ≠ 0 /\ ∃ f g h, e = .returned (.tuple ⟨[.agg ⟨treeL f g h⟩, .int .i64 (chkU n L C)]⟩)))
theorem check_calls' (u : Un) (w : World) (hA : u.In w) (hl : u.L.length <= 1000) :
  Calls Tryz.prog 74 ⟨[.agg ⟨u.v⟩]⟩ w (ChkQ u.n u.L u.C w) := by
 have hck : ∀ (mem : List (Nat × Obj)) (W : World), SatW w (base w) noJ mem W -> Calls Tryz.prog 82 ⟨[.agg ⟨netCells u.n u.A u.L.length u.cap⟩]⟩ W fun e w' => e = .returned (.int .i64 (chk u.n u.L)) /\ Below W.heap.size W w' := fun mem W hW => check_calls u.n u.A u.cap u.L W hl (hA.l.sat hW)
 have hgr : ∀ (mem : List (Nat × Obj)) (W : World) (N : Nat), u.n = N -> N <= 64 -> u.C.length <= 256 -> SatW w (base w) noJ mem W -> Calls Tryz.prog 93 ⟨[.agg ⟨u.v⟩]⟩ W (GrowQ u.n u.C W) := fun mem W N h1 h2 h3 hW => grow_calls u N W h1 h2 (hA.sat hW) h3
 obtain ⟨n, A, cap, L, B, cab, C⟩ := u
 simp only [Un.v] at hl hck hgr ⊢
 refine fEn Tryz.func74 rfl Tryz.ntmps74 rfl rfl (sWn w) ?_
 repeat (first|refine r_alloc rfl rfl rfl (treeZ rfl) (fun b2 => ?_)|refine lVa rfl rfl (by first|exact pEv rfl|exact vLd rfl (by repeat constructor) rfl (by rfl)|exact v_build rfl rfl (by rfl)|fail) ?_|refine lNi ?_|refine cRg ?_|refine cSq ?_|refine xTh ?_|refine r_box rfl rfl rfl rfl (fun _ => ?_)|fail)
 refine r_call rfl rfl rfl (fun W hW => hck _ W hW) ?_
 by_cases h1 : chk n L = 0
 rotate_left
 ·have hc := chkU_a (C := C) h1
  have hc0 : chkU n L C ≠ 0 := by rw [hc]; exact h1
  repeat (first|refine lVa rfl rfl (v_loadW rfl (by repeat constructor) rfl rfl treeL_len) ?_|refine rSt (vs := treeL _ _ _) rfl rfl rfl rfl rfl treeL_beq treeL_one (by repeat constructor) (putK_all (treeL_len.trans treeL_len.symm)) ?_|refine lVa rfl rfl (by first|exact pEv rfl|fail) ?_|refine lNi ?_|refine cRg ?_|refine cSq ?_|refine xTh ?_|refine c_dec_t rfl (by first|omega|fail) ?_|refine c_ret ?_|refine xTr ?_|fail)
  exact x_ret rfl rfl (res_tree rfl (by repeat constructor) rfl) rfl (fun W hW => ⟨hW.below, .inr ⟨hc0, _, _, _, by rw [hc]⟩⟩)
 rw [h1]
 obtain ⟨n1, n2, l1, hF⟩ := chk_ok h1
 obtain ⟨N, rfl⟩ : ∃ N : Nat, n = N := ⟨n.toNat, by omega⟩
 by_cases h2 : 256 < C.length
 ·have hc := chkU_2 (C := C) h1 h2
  have hc0 : chkU N L C ≠ 0 := by rw [hc]; decide
  repeat (first|refine lVa rfl rfl (v_loadW rfl (by repeat constructor) rfl rfl treeL_len) ?_|refine rSt (vs := treeL _ _ _) rfl rfl rfl rfl rfl treeL_beq treeL_one (by repeat constructor) (putK_all (treeL_len.trans treeL_len.symm)) ?_|refine lVa rfl rfl (by first|exact pEv rfl|exact vLd rfl (by repeat constructor) rfl (by rfl)|fail) ?_|refine lNi ?_|refine cRg ?_|refine cSq ?_|refine xTh ?_|refine c_false rfl ?_|refine c_dec_t rfl (by first|omega|fail) ?_|refine cSk ?_|refine c_ret ?_|refine xTr ?_|fail)
  exact x_ret rfl rfl (res_tree rfl (by repeat constructor) rfl) rfl (fun W hW => ⟨hW.below, .inr ⟨hc0, _, _, _, by rw [hc]⟩⟩)
 by_cases h3 : Ends N C /\ okT ((N : Int).toNat) C
 ·have hc := chkU_0 (L := L) h1 h2 h3
  repeat (first|refine lVa rfl rfl (by first|exact pEv rfl|exact vLd rfl (by repeat constructor) rfl (by rfl)|fail) ?_|refine lNi ?_|refine cRg ?_|refine cSq ?_|refine xTh ?_|refine c_false rfl ?_|refine c_dec_f rfl (by first|omega|fail) ?_|refine cSk ?_|fail)
  refine r_call (v := .tuple ⟨[.agg ⟨theTree C N⟩, .bool true]⟩) rfl rfl rfl (fun W hW => (hgr _ W N rfl (by omega) (by omega) hW).mono fun e W' ⟨g1, g2⟩ => ?_) ?_
  ·rcases g2 with ⟨_, _, g2⟩ | ⟨g2, _⟩
   ·rw [Int.toNat_natCast] at g2
    exact ⟨g2, g1⟩
   ·exact absurd h3 g2
  unfold theTree
  repeat (first|refine lVa rfl rfl (v_loadW rfl (by repeat constructor) rfl rfl treeL_len) ?_|refine rSt (vs := treeL _ _ _) rfl rfl rfl rfl rfl treeL_beq treeL_one (by repeat constructor) (putK_all (treeL_len.trans treeL_len.symm)) ?_|refine lVa rfl rfl (by first|exact pEv rfl|fail) ?_|refine lNi ?_|refine cRg ?_|refine cSq ?_|refine xTh ?_|refine c_false rfl ?_|refine cSk ?_|refine c_ret ?_|fail)
  exact x_ret rfl rfl (res_tree rfl (by repeat constructor) rfl) rfl (fun W hW => ⟨hW.below, .inl ⟨hc, by rw [Int.toNat_natCast]; rfl⟩⟩)
 ·have hc := chkU_230 (L := L) h1 h2 h3
  have hc0 : chkU N L C ≠ 0 := by rw [hc]; decide
  repeat (first|refine lVa rfl rfl (by first|exact pEv rfl|exact vLd rfl (by repeat constructor) rfl (by rfl)|fail) ?_|refine lNi ?_|refine cRg ?_|refine cSq ?_|refine xTh ?_|refine c_false rfl ?_|refine c_dec_f rfl (by first|omega|fail) ?_|refine cSk ?_|fail)
  refine r_callI (ι := (Nat -> Int) × (Nat -> Int) × (Nat -> Nat)) (v := fun i => .tuple ⟨[.agg ⟨treeL i.1 i.2.1 i.2.2⟩, .bool false]⟩) rfl rfl rfl (fun W hW => (hgr _ W N rfl (by omega) (by omega) hW).mono fun e W' ⟨g1, g2⟩ => ?_) ?_
  ·rcases g2 with ⟨g2, g3, _⟩ | ⟨_, f, g, h, g2⟩
   ·exact absurd ⟨g2, g3⟩ h3
   ·exact ⟨(f, g, h), g2, g1⟩
  rintro ⟨f, g, h⟩
  simp only
  repeat (first|refine lVa rfl rfl (v_loadW rfl (by repeat constructor) rfl rfl treeL_len) ?_|refine rSt (vs := treeL _ _ _) rfl rfl rfl rfl rfl treeL_beq treeL_one (by repeat constructor) (putK_all (treeL_len.trans treeL_len.symm)) ?_|refine lVa rfl rfl (by first|exact pEv rfl|fail) ?_|refine lNi ?_|refine cRg ?_|refine cSq ?_|refine xTh ?_|refine c_true rfl ?_|refine c_ret ?_|refine xTr ?_|fail)
  exact x_ret rfl rfl (res_tree rfl (by repeat constructor) rfl) rfl (fun W hW => ⟨hW.below, .inr ⟨hc0, _, _, _, by rw [hc]⟩⟩)
theorem Check_calls (u : Un) (w : World) (hA : u.In w) (hl : u.L.length <= 1000) :
  Calls Tryz.prog 46 ⟨[.agg ⟨u.v⟩]⟩ w fun e w' => e = .returned (.int .i64 (chkU u.n u.L u.C)) /\ Below w.heap.size w w' := by
 have hck : ∀ (mem : List (Nat × Obj)) (W : World), SatW w (base w) noJ mem W -> Calls Tryz.prog 74 ⟨[.agg ⟨u.v⟩]⟩ W (ChkQ u.n u.L u.C W) := fun mem W hW => check_calls' u W (hA.sat hW) hl
 obtain ⟨n, A, cap, L, B, cab, C⟩ := u
 simp only [Un.v] at hl hck ⊢
 refine fEn Tryz.func46 rfl Tryz.ntmps46 rfl rfl (sWn w) ?_
 repeat (first|refine lVa rfl rfl (by first|exact pEv rfl|exact vLd rfl (by repeat constructor) rfl (by rfl)|fail) ?_|refine lNi ?_|refine cRg ?_|refine cSq ?_|refine xTh ?_|refine r_box rfl rfl rfl rfl (fun _ => ?_)|fail)
 refine r_callI (ι := (Nat -> Int) × (Nat -> Int) × (Nat -> Nat)) (v := fun i => .tuple ⟨[.agg ⟨treeL i.1 i.2.1 i.2.2⟩, .int .i64 (chkU n L C)]⟩) rfl rfl rfl (fun W hW => (hck _ W hW).mono fun e W' ⟨g1, g2⟩ => ?_) ?_
 ·rcases g2 with ⟨g2, g3⟩ | ⟨_, f, g, h, g2⟩
  ·exact ⟨(fI C C.length, gT C n.toNat n.toNat, hT C n.toNat n.toNat), by rw [g2]; exact g3, g1⟩
  ·exact ⟨(f, g, h), g2, g1⟩
 rintro ⟨f, g, h⟩
 simp only
 repeat (first|refine lVa rfl rfl (by first|exact pEv rfl|fail) ?_|refine lNi ?_|refine cRg ?_|refine cSq ?_|refine xTh ?_|refine c_ret ?_|fail)
 exact x_ret rfl rfl (by repeat constructor) rfl (fun W hW => ⟨rfl, hW.below⟩)
end R23
end Go.Proofs

set_option maxRecDepth 100000
set_option maxHeartbeats 400000000
namespace Go.Proofs
open Go.RowKit Go.Kin Go.Kin.St Go.Kin.Ct Go.Kin.Sg
namespace R24
theorem pow16 {T k : Nat} (hT : T <= 15) (hk : k <= 7) : (T + 1) ^ k <= 268435456 :=
 Nat.le_trans (Nat.pow_le_pow_left (show T + 1 <= 16 by omega) k) (Nat.le_trans (Nat.pow_le_pow_right (by omega) hk) (by decide))
theorem powS {T k : Nat} : (((T + 1) ^ k : Nat) : Int) * ((T : Int) + 1) = (((T + 1) ^ (k + 1) : Nat) : Int) := by rw [Nat.pow_succ]; push_cast; rfl
theorem CheckS_calls (u : R23.Un) (T : Int) (w : World) (hA : u.In w) (hl : u.L.length <= 1000) (hc : u.C.length <= 1000) :
  Calls Tryz.prog 17 ⟨[.agg ⟨u.v⟩, .int .i64 T]⟩ w fun e w' => e = .returned (.int .i64 (chkS u.n u.L u.C T)) /\ Below w.heap.size w w' := by
 have hck : ∀ (mem : List (Nat × Obj)) (W : World), SatW w (base w) noJ mem W -> Calls Tryz.prog 46 ⟨[.agg ⟨u.v⟩]⟩ W fun e w' => e = .returned (.int .i64 (R23.chkU u.n u.L u.C)) /\ Below W.heap.size W w' := fun mem W hW => R23.Check_calls u W (hA.sat hW) hl
 have hB := hA.c
 obtain ⟨n, A, cap, L, B, cab, C⟩ := u
 simp only [R23.Un.v] at hl hc hck hB ⊢
 refine fEn Tryz.func17 rfl Tryz.ntmps17 rfl rfl (sWn w) ?_
 repeat (first|refine lVa rfl rfl (by first|exact pEv rfl|exact vLd rfl (by repeat constructor) rfl (by rfl)|fail) ?_|refine lNi ?_|refine cRg ?_|refine cSq ?_|refine xTh ?_|refine r_box rfl rfl rfl rfl (fun _ => ?_)|fail)
 refine r_call rfl rfl rfl (fun W hW => hck _ W hW) ?_
 by_cases h0 : R23.chkU n L C = 0
 rotate_left
 ·rw [chkS_a h0]
  repeat (first|refine lVa rfl rfl (by first|exact pEv rfl|fail) ?_|refine lNi ?_|refine cRg ?_|refine cSq ?_|refine xTh ?_|refine c_dec_t rfl (by first|omega|fail) ?_|refine c_ret ?_|refine xTr ?_|fail)
  exact x_ret rfl rfl (by repeat constructor) rfl (fun W hW => ⟨rfl, hW.below⟩)
 rw [h0]
 obtain ⟨n1, n2, hrest⟩ := R23.chkU_ok h0
 by_cases h1 : T < 1 ∨ 15 < T
 ·rw [chkS_1 h0 h1]
  by_cases h1a : T < 1
  ·repeat (first|refine lVa rfl rfl (by first|exact pEv rfl|fail) ?_|refine lNi ?_|refine cRg ?_|refine cSq ?_|refine xTh ?_|refine l_skip rfl rfl ?_|refine c_true rfl ?_|refine c_false rfl ?_|refine cSk ?_|refine c_ret ?_|refine xTr ?_|refine l_dec_t rfl rfl rfl rfl rfl (by first|omega|fail) ?_|fail)
   exact x_ret rfl rfl (by repeat constructor) rfl (fun W hW => ⟨rfl, hW.below⟩)
  ·repeat (first|refine lVa rfl rfl (by first|exact pEv rfl|fail) ?_|refine lNi ?_|refine cRg ?_|refine cSq ?_|refine xTh ?_|refine c_false rfl ?_|refine c_dec_t rfl (by first|omega|fail) ?_|refine cSk ?_|refine c_ret ?_|refine xTr ?_|refine l_dec_f rfl rfl rfl rfl rfl (by first|omega|fail) ?_|fail)
   exact x_ret rfl rfl (by repeat constructor) rfl (fun W hW => ⟨rfl, hW.below⟩)
 obtain ⟨t, rfl⟩ : ∃ t : Nat, T = t := ⟨T.toNat, by omega⟩
 obtain ⟨N, rfl⟩ : ∃ N : Nat, n = N := ⟨n.toNat, by omega⟩
 have ht : t <= 15 := by omega
 repeat (first|refine lVa rfl rfl (by first|exact pEv rfl|exact vLd rfl (by repeat constructor) rfl (by rfl)|fail) ?_|refine lNi ?_|refine cRg ?_|refine cSq ?_|refine xTh ?_|refine c_false rfl ?_|refine c_dec_f rfl (by first|omega|fail) ?_|refine cBl ?_|refine cSk ?_|refine l_dec_f rfl rfl rfl rfl rfl (by first|omega|fail) ?_|fail)
 rename_i b2
 have hmn : min (N : Int) 7 = ((min N 7 : Nat) : Int) := by omega
 obtain ⟨M, hM⟩ : ∃ M, min N 7 = M := ⟨_, rfl⟩
 rw [hmn, hM]
 have hM7 : M <= 7 := by omega
 refine c_loop (ι := Nat) (fun k => k <= M) (fun k => [(1, .int .i64 t), (2, .pointer (some ⟨b2, 0, none⟩)), (5, .int .i64 (((t + 1) ^ k : Nat) : Int)), (19, .int .i64 M), (20, .int .i64 k)]) (fun _ => [(b2, .cells ⟨[.int .i64 N, .slice A L.length cap, .slice B C.length cab]⟩ 24 (0, 0))]) (fun k => M - k) 0 (Nat.zero_le _) (by repeat (first|exact .nil|refine .cons rfl (by first|rfl|(congr 1; done)|exact congrArg _ (by omega)|(simp; done)) ?_)) (by repeat (first|exact .nil|refine .keep (by first|rfl|assumption) ?_|refine .drop ?_|exact MSub.refl _)) ?_
 intro k hk
 have hp1 := pow16 (T := t) (k := k) ht (by omega)
 by_cases hlt : k < M
 ·have hp2 := pow16 (T := t) (k := k + 1) ht (by omega)
  have hps := powS (T := t) (k := k)
  repeat (first|refine lVa rfl rfl (by first|exact v_add rfl rfl (by omega) (by omega)|exact v_mul rfl rfl (by omega) (by omega)|exact pEv rfl|fail) ?_|refine lNi ?_|refine cRg ?_|refine cSq ?_|refine xTh ?_|refine c_dec_t rfl (by first|omega|fail) ?_|refine cBl ?_|refine cSk ?_|refine x_block ?_|fail)
  rw [hps]
  exact x_back (k + 1) hlt (by omega) (by repeat (first|exact .nil|refine .cons rfl (by first|rfl|(congr 1; done)|exact congrArg _ (by omega)|(simp; done)) ?_)) (by repeat (first|exact .nil|refine .keep (by first|rfl|assumption) ?_|refine .drop ?_|exact MSub.refl _))
 have hkM : k = M := by omega
 subst hkM
 by_cases h2 : 6 < (N : Int) ∨ 4096 < ((t : Int).toNat + 1) ^ (N : Int).toNat
 ·rw [chkS_2 h0 h1 h2]
  by_cases h2a : 6 < N
  ·repeat (first|refine lVa rfl rfl (by first|exact pEv rfl|exact vLd rfl (by repeat constructor) rfl (by rfl)|fail) ?_|refine lNi ?_|refine cRg ?_|refine cSq ?_|refine xTh ?_|refine l_skip rfl rfl ?_|refine c_true rfl ?_|refine c_dec_f rfl (by first|omega|fail) ?_|refine c_ret ?_|refine c_exit ?_|refine xTr ?_|refine xTe ?_|refine xBs ?_|refine l_dec_t rfl rfl rfl rfl rfl (by first|omega|fail) ?_|fail)
   exact x_ret rfl rfl (by repeat constructor) rfl (fun W hW => ⟨rfl, hW.below⟩)
  ·have hkN : k = N := by omega
   subst hkN
   rw [Int.toNat_natCast, Int.toNat_natCast] at h2
   have h2b : 4096 < (t + 1) ^ k := by omega
   repeat (first|refine lVa rfl rfl (by first|exact pEv rfl|exact vLd rfl (by repeat constructor) rfl (by rfl)|fail) ?_|refine lNi ?_|refine cRg ?_|refine cSq ?_|refine xTh ?_|refine c_dec_t rfl (by first|omega|fail) ?_|refine c_dec_f rfl (by first|omega|fail) ?_|refine c_ret ?_|refine c_exit ?_|refine xTr ?_|refine xTe ?_|refine xBs ?_|refine l_dec_f rfl rfl rfl rfl rfl (by first|omega|fail) ?_|fail)
   exact x_ret rfl rfl (by repeat constructor) rfl (fun W hW => ⟨rfl, hW.below⟩)
 rw [chkS_3 h0 h1 h2]
 have hkN : k = N := by omega
 subst hkN
 rw [Int.toNat_natCast, Int.toNat_natCast] at h2
 have h2b : (t + 1) ^ k <= 4096 := by omega
 have h2c : k <= 6 := by omega
 repeat (first|refine lVa rfl rfl (by first|exact pEv rfl|exact vLd rfl (by repeat constructor) rfl (by rfl)|fail) ?_|refine lNi ?_|refine cRg ?_|refine cSq ?_|refine xTh ?_|refine c_dec_f rfl (by first|omega|fail) ?_|refine cSk ?_|refine c_exit ?_|refine xTe ?_|refine xBs ?_|refine l_dec_f rfl rfl rfl rfl rfl (by first|omega|fail) ?_|fail)
 refine r_call rfl rfl rfl (fun W hW => anyL_calls B cab C W (hB.sat hW) (by omega)) ?_
 cases hg : C.any (fun x => decide (x.lo < 1)) with
 | false =>
  repeat (first|refine lVa rfl rfl (by first|exact pEv rfl|fail) ?_|refine lNi ?_|refine cRg ?_|refine cSq ?_|refine xTh ?_|refine c_false rfl ?_|refine cSk ?_|refine c_ret ?_|fail)
  exact x_ret rfl rfl (by repeat constructor) rfl (fun W hW => ⟨rfl, hW.below⟩)
 | true =>
  repeat (first|refine lVa rfl rfl (by first|exact pEv rfl|fail) ?_|refine lNi ?_|refine cRg ?_|refine cSq ?_|refine xTh ?_|refine c_true rfl ?_|refine c_ret ?_|refine xTr ?_|fail)
  exact x_ret rfl rfl (by repeat constructor) rfl (fun W hW => ⟨rfl, hW.below⟩)
theorem CheckR_calls (u : R23.Un) (T : Int) (w : World) (hA : u.In w) (hl : u.L.length <= 1000) (hc : u.C.length <= 1000) :
  Calls Tryz.prog 20 ⟨[.agg ⟨u.v⟩, .int .i64 T]⟩ w fun e w' => e = .returned (.int .i64 (chkS u.n u.L u.C T)) /\ Below w.heap.size w w' := by
 have hck : ∀ (mem : List (Nat × Obj)) (W : World), SatW w (base w) noJ mem W -> Calls Tryz.prog 49 ⟨[.agg ⟨u.v⟩]⟩ W fun e w' => e = .returned (.int .i64 (R23.chkU u.n u.L u.C)) /\ Below W.heap.size W w' := fun mem W hW => R23.rCheckU_calls u W (hA.sat hW) hl hc
 have hB := hA.c
 obtain ⟨n, A, cap, L, B, cab, C⟩ := u
 simp only [R23.Un.v] at hl hc hck hB ⊢
 refine fEn Tryz.func20 rfl Tryz.ntmps20 rfl rfl (sWn w) ?_
 repeat (first|refine lVa rfl rfl (by first|exact pEv rfl|exact vLd rfl (by repeat constructor) rfl (by rfl)|fail) ?_|refine lNi ?_|refine cRg ?_|refine cSq ?_|refine xTh ?_|refine r_box rfl rfl rfl rfl (fun _ => ?_)|fail)
 refine r_call rfl rfl rfl (fun W hW => hck _ W hW) ?_
 by_cases h0 : R23.chkU n L C = 0
 rotate_left
 ·rw [chkS_a h0]
  repeat (first|refine lVa rfl rfl (by first|exact pEv rfl|fail) ?_|refine lNi ?_|refine cRg ?_|refine cSq ?_|refine xTh ?_|refine c_dec_t rfl (by first|omega|fail) ?_|refine c_ret ?_|refine xTr ?_|fail)
  exact x_ret rfl rfl (by repeat constructor) rfl (fun W hW => ⟨rfl, hW.below⟩)
 rw [h0]
 obtain ⟨n1, n2, hrest⟩ := R23.chkU_ok h0
 by_cases h1 : T < 1 ∨ 15 < T
 ·rw [chkS_1 h0 h1]
  by_cases h1a : T < 1
  ·repeat (first|refine lVa rfl rfl (by first|exact pEv rfl|fail) ?_|refine lNi ?_|refine cRg ?_|refine cSq ?_|refine xTh ?_|refine l_skip rfl rfl ?_|refine c_true rfl ?_|refine c_false rfl ?_|refine cSk ?_|refine c_ret ?_|refine xTr ?_|refine l_dec_t rfl rfl rfl rfl rfl (by first|omega|fail) ?_|fail)
   exact x_ret rfl rfl (by repeat constructor) rfl (fun W hW => ⟨rfl, hW.below⟩)
  ·repeat (first|refine lVa rfl rfl (by first|exact pEv rfl|fail) ?_|refine lNi ?_|refine cRg ?_|refine cSq ?_|refine xTh ?_|refine c_false rfl ?_|refine c_dec_t rfl (by first|omega|fail) ?_|refine cSk ?_|refine c_ret ?_|refine xTr ?_|refine l_dec_f rfl rfl rfl rfl rfl (by first|omega|fail) ?_|fail)
   exact x_ret rfl rfl (by repeat constructor) rfl (fun W hW => ⟨rfl, hW.below⟩)
 obtain ⟨t, rfl⟩ : ∃ t : Nat, T = t := ⟨T.toNat, by omega⟩
 obtain ⟨N, rfl⟩ : ∃ N : Nat, n = N := ⟨n.toNat, by omega⟩
 have ht : t <= 15 := by omega
 by_cases h2a : 6 < N
 ·rw [chkS_2 h0 h1 (.inl (by omega))]
  repeat (first|refine lVa rfl rfl (by first|exact pEv rfl|exact vLd rfl (by repeat constructor) rfl (by rfl)|fail) ?_|refine lNi ?_|refine cRg ?_|refine cSq ?_|refine xTh ?_|refine c_false rfl ?_|refine c_dec_t rfl (by first|omega|fail) ?_|refine c_dec_f rfl (by first|omega|fail) ?_|refine cSk ?_|refine c_ret ?_|refine xTr ?_|refine l_dec_f rfl rfl rfl rfl rfl (by first|omega|fail) ?_|fail)
  exact x_ret rfl rfl (by repeat constructor) rfl (fun W hW => ⟨rfl, hW.below⟩)
 repeat (first|refine lVa rfl rfl (by first|exact pEv rfl|exact vLd rfl (by repeat constructor) rfl (by rfl)|fail) ?_|refine lNi ?_|refine cRg ?_|refine cSq ?_|refine xTh ?_|refine c_false rfl ?_|refine c_dec_f rfl (by first|omega|fail) ?_|refine cBl ?_|refine cSk ?_|refine l_dec_f rfl rfl rfl rfl rfl (by first|omega|fail) ?_|fail)
 rename_i b2
 refine c_loop (ι := Nat) (fun k => k <= N) (fun k => [(1, .int .i64 t), (2, .pointer (some ⟨b2, 0, none⟩)), (6, .int .i64 (((t + 1) ^ k : Nat) : Int)), (7, .int .i64 k)]) (fun _ => [(b2, .cells ⟨[.int .i64 N, .slice A L.length cap, .slice B C.length cab]⟩ 24 (0, 0))]) (fun k => N - k) 0 (Nat.zero_le _) (by repeat (first|exact .nil|refine .cons rfl (by first|rfl|(congr 1; done)|exact congrArg _ (by omega)|(simp; done)) ?_)) (by repeat (first|exact .nil|refine .keep (by first|rfl|assumption) ?_|refine .drop ?_|exact MSub.refl _)) ?_
 intro k hk
 have hp1 := pow16 (T := t) (k := k) ht (by omega)
 by_cases hlt : k < N
 ·have hp2 := pow16 (T := t) (k := k + 1) ht (by omega)
  have hps := powS (T := t) (k := k)
  repeat (first|refine lVa rfl rfl (by first|exact v_add rfl rfl (by omega) (by omega)|exact v_mul rfl rfl (by omega) (by omega)|exact pEv rfl|exact vLd rfl (by repeat constructor) rfl (by rfl)|fail) ?_|refine lNi ?_|refine cRg ?_|refine cSq ?_|refine xTh ?_|refine c_dec_t rfl (by first|omega|fail) ?_|refine cBl ?_|refine cSk ?_|refine x_block ?_|fail)
  rw [hps]
  exact x_back (k + 1) hlt (by omega) (by repeat (first|exact .nil|refine .cons rfl (by first|rfl|(congr 1; done)|exact congrArg _ (by omega)|(simp; done)) ?_)) (by repeat (first|exact .nil|refine .keep (by first|rfl|assumption) ?_|refine .drop ?_|exact MSub.refl _))
 have hkN : k = N := by omega
 subst hkN
 by_cases h2 : 6 < (k : Int) ∨ 4096 < ((t : Int).toNat + 1) ^ (k : Int).toNat
 ·rw [chkS_2 h0 h1 h2]
  rw [Int.toNat_natCast, Int.toNat_natCast] at h2
  have h2b : 4096 < (t + 1) ^ k := by omega
  repeat (first|refine lVa rfl rfl (by first|exact pEv rfl|exact vLd rfl (by repeat constructor) rfl (by rfl)|fail) ?_|refine lNi ?_|refine cRg ?_|refine cSq ?_|refine xTh ?_|refine c_dec_t rfl (by first|omega|fail) ?_|refine c_dec_f rfl (by first|omega|fail) ?_|refine c_ret ?_|refine c_exit ?_|refine xTr ?_|refine xTe ?_|refine xBs ?_|fail)
  exact x_ret rfl rfl (by repeat constructor) rfl (fun W hW => ⟨rfl, hW.below⟩)
 rw [chkS_3 h0 h1 h2]
 rw [Int.toNat_natCast, Int.toNat_natCast] at h2
 have h2b : (t + 1) ^ k <= 4096 := by omega
 repeat (first|refine lVa rfl rfl (by first|exact pEv rfl|exact vLd rfl (by repeat constructor) rfl (by rfl)|fail) ?_|refine lNi ?_|refine cRg ?_|refine cSq ?_|refine xTh ?_|refine c_dec_f rfl (by first|omega|fail) ?_|refine cBl ?_|refine cSk ?_|refine c_exit ?_|refine xTe ?_|refine xBs ?_|fail)
 refine c_loop (ι := Nat) (fun i => i <= C.length /\ ∀ x ∈ C.take i, decide (x.lo < 1) = false) (fun i => [(2, .pointer (some ⟨b2, 0, none⟩)), (8, .int .i64 i)]) (fun _ => [(b2, .cells ⟨[.int .i64 k, .slice A L.length cap, .slice B C.length cab]⟩ 24 (0, 0))]) (fun i => C.length - i) 0 ⟨Nat.zero_le _, fun x hx => by simp at hx⟩ (by repeat (first|exact .nil|refine .cons rfl (by first|rfl|(congr 1; done)|exact congrArg _ (by omega)|(simp; done)) ?_)) (by repeat (first|exact .nil|refine .keep (by first|rfl|assumption) ?_|refine .drop ?_|exact MSub.refl _)) ?_
 rintro i ⟨hi, hF⟩
 by_cases hlt2 : i < C.length
 ·obtain ⟨y, hy⟩ : ∃ y, C[i]? = some y := ⟨_, List.getElem?_eq_getElem hlt2⟩
  obtain ⟨b', o, rfl, hcc⟩ := hB i (R22.lkE y) (by simp [hy])
  have he := ext_of hcc
  by_cases hg : y.lo < 1
  ·have ha : C.any (fun x => decide (x.lo < 1)) = true := List.any_eq_true.2 ⟨y, List.mem_of_getElem? hy, decide_eq_true hg⟩
   rw [ha]
   repeat (first|refine lVa rfl rfl (by first|exact pEv rfl|exact vLd rfl (by repeat constructor) rfl (by rfl)|exact vLe rfl (by assumption) rfl (by rfl)|exact v_index rfl rfl rfl rfl (by omega) (by omega) (by with_reducible first|exact idx4 _ _ _|fail)|fail) ?_|refine lNi ?_|refine cRg ?_|refine cSq ?_|refine xTh ?_|refine c_dec_t rfl (by first|omega|fail) ?_|refine cBl ?_|refine cSk ?_|refine c_ret ?_|refine xTr ?_|refine xBr ?_|fail)
   exact x_ret rfl rfl (by repeat constructor) rfl (fun W hW => ⟨rfl, hW.below⟩)
  ·repeat (first|refine lVa rfl rfl (by first|exact v_add rfl rfl (by omega) (by omega)|exact pEv rfl|exact vLd rfl (by repeat constructor) rfl (by rfl)|exact vLe rfl (by assumption) rfl (by rfl)|exact v_index rfl rfl rfl rfl (by omega) (by omega) (by with_reducible first|exact idx4 _ _ _|fail)|fail) ?_|refine lNi ?_|refine cRg ?_|refine cSq ?_|refine xTh ?_|refine c_dec_t rfl (by first|omega|fail) ?_|refine c_dec_f rfl (by first|omega|fail) ?_|refine cBl ?_|refine cSk ?_|refine x_block ?_|fail)
   refine x_back (i + 1) ⟨hlt2, fun z hz => ?_⟩ (by omega) (by repeat (first|exact .nil|refine .cons rfl (by first|rfl|(congr 1; done)|exact congrArg _ (by omega)|(simp; done)) ?_)) (by repeat (first|exact .nil|refine .keep (by first|rfl|assumption) ?_|refine .drop ?_|exact MSub.refl _))
   rw [List.take_add_one, hy] at hz
   rcases List.mem_append.1 hz with h | h
   ·exact hF z h
   ·simp only [Option.toList_some, List.mem_singleton] at h
    rw [h]; exact decide_eq_false hg
 ·have hil : i = C.length := by omega
  subst hil
  rw [List.take_length] at hF
  have ha : C.any (fun x => decide (x.lo < 1)) = false := List.any_eq_false.2 fun x hx => by rw [hF x hx]; simp
  rw [ha]
  repeat (first|refine lVa rfl rfl (by first|exact pEv rfl|exact vLd rfl (by repeat constructor) rfl (by rfl)|fail) ?_|refine lNi ?_|refine cRg ?_|refine cSq ?_|refine xTh ?_|refine c_dec_f rfl (by first|omega|fail) ?_|refine c_ret ?_|refine c_exit ?_|refine xTe ?_|refine xBs ?_|fail)
  exact x_ret rfl rfl (by repeat constructor) rfl (fun W hW => ⟨rfl, hW.below⟩)
end R24
end Go.Proofs

namespace Go.Proofs
open Go.RowKit Go.Kin Go.Kin.St Go.Kin.Ct Go.Kin.Sg
namespace R24
theorem put_mem {v x : Int} : ∀ {S : List Nat} {l : List Int}, x ∈ put l S v -> x ∈ l ∨ x = v
 | [], _, h => .inl h
 | q :: S, l, h => by
  have h : x ∈ put (l.set q v) S v := h
  rcases put_mem h with h | h
  ·rcases List.mem_or_eq_of_mem_set h with h | h
   ·exact .inl h
   ·exact .inr h
  ·exact .inr h
theorem rep_pos (b : GB) : PosN b (List.replicate b.n 0) /\ ∀ x ∈ List.replicate b.n (0 : Int), 0 <= x /\ x <= b.T + 1 :=
 ⟨⟨List.length_replicate, fun x hx => by rw [(List.mem_replicate.1 hx).2]; omega⟩, fun x hx => by rw [(List.mem_replicate.1 hx).2]; omega⟩
structure PosI (b : GB) (R : Nat -> List Int -> Prop) (p : Pos) : Prop where
 n : PosN b p.2
 t : ∀ x ∈ p.2, 0 <= x /\ x <= b.T + 1
 k : p.1 <= b.T + 1
 r : R p.1 p.2
theorem put_pos {b : GB} {l : List Int} {S : List Nat} {k : Nat} (hT : b.T <= 15) (h1 : PosN b l) (h2 : ∀ x ∈ l, 0 <= x /\ x <= b.T + 1) (hk : k <= b.T) : PosN b (put l S (k + 1)) /\ ∀ x ∈ put l S (k + 1), 0 <= x /\ x <= b.T + 1 :=
 ⟨h1.put (by omega), fun x hx => by
  rcases put_mem hx with h | h
  ·exact h2 x h
  ·rw [h]; omega⟩
theorem rchD {b : GB} (hb : GOK b) (hv : Vt b.g 0 (List.replicate b.n 0)) : ∀ {p : Pos}, Rch (nxD b.g) b.T (0, List.replicate b.n 0) p -> PosI b (Vt b.g) p := by
 intro p hp
 induction hp with
 | start => exact ⟨(rep_pos b).1, (rep_pos b).2, Nat.zero_le _, hv⟩
 | step hr hk hy ih =>
  rename_i p y
  unfold nxD at hy
  obtain ⟨S, hS, rfl⟩ := List.mem_map.1 hy
  have hT := hb.T
  have h1 := put_pos (S := S) hT ih.n ih.t hk
  have h2 := put_pos (S := gD b.g p.1 (put p.2 S (p.1 + 1))) hT h1.1 h1.2 hk
  exact ⟨h2.1, h2.2, by show p.1 + 1 <= _; omega, (gD_good hk (ch_mem.2 hS) ih.r).2.2⟩
theorem rchO {b : GB} (hb : GOK b) (hv : ¬ Vt b.g 0 (List.replicate b.n 0)) : ∀ {p : Pos}, Rch (nxO b.g) b.T (0, List.replicate b.n 0) p -> PosI b (fun k l => ¬ Vt b.g k l) p := by
 intro p hp
 induction hp with
 | start => exact ⟨(rep_pos b).1, (rep_pos b).2, Nat.zero_le _, hv⟩
 | step hr hk hy ih =>
  rename_i p y
  unfold nxO at hy
  obtain ⟨D, hD, rfl⟩ := List.mem_map.1 hy
  have hT := hb.T
  have h1 := put_pos (S := gO b.g p.1 p.2) hT ih.n ih.t hk
  have h2 := put_pos (S := D) hT h1.1 h1.2 hk
  exact ⟨h2.1, h2.2, by show p.1 + 1 <= _; omega, (gO_good hk ih.r).2.2 D (free_ch.2 hD)⟩
noncomputable def fcD (G : Gm) (k : Int) (q : List Int) : List Int := (gD G k.toNat q).map fun x : Nat => (x : Int)
noncomputable def fcO (G : Gm) (k : Int) (q : List Int) : List Int := (gO G k.toNat q).map fun x : Nat => (x : Int)
theorem dec1_len {k : Nat} {l : List Int} {d : List Nat} : (dec1 k l d).length <= 1 := by unfold dec1; split <;> simp
theorem dec1_mem {k : Nat} {l : List Int} {d : List Nat} {x : Dec} (h : x ∈ dec1 k l d) : d ≠ [] /\ x = decN k l d := by
 unfold dec1 at h
 split at h
 ·cases h
 ·rename_i h2; exact ⟨h2, List.mem_singleton.1 h⟩
theorem colD (b : GB) (a bgs : Nat) (hb : GOK b) (hne : b.n ≠ 0) (hv : Vt b.g 0 (List.replicate b.n 0)) : ColH b a 37 bgs (adD b.g) (nxD b.g) (fcD b.g) where
 step := fun bs bg p hp hk => step44_calls b a bgs bs bg p.1 p.2 hb hk (rchD hb hv hp).n hne (rchD hb hv hp).r
 pos := fun p hp => ⟨(rchD hb hv hp).n, (rchD hb hv hp).t⟩
 nxk := fun p hp hk => ⟨fun y hy => by unfold nxD at hy; obtain ⟨S, _, rfl⟩ := List.mem_map.1 hy; rfl, by unfold nxD; rw [List.length_map]; exact allCh_len (Nat.le_trans may_len hb.n)⟩
 ads := fun p hp hk => ⟨by
  have h1 := allCh_len (ps := may b.g p.1 p.2) (must := Sg.due b.g p.1 p.2) (Nat.le_trans may_len hb.n)
  have h2 := flatMap_len (K := 1) (l := allCh (may b.g p.1 p.2) (Sg.due b.g p.1 p.2)) (f := fun S => dec1 p.1 (put p.2 S (p.1 + 1)) (gD b.g p.1 (put p.2 S (p.1 + 1)))) fun _ _ => dec1_len
  unfold adD
  omega, fun d hd => by
  unfold adD at hd
  obtain ⟨S, _, h⟩ := List.mem_flatMap.1 hd
  obtain ⟨_, rfl⟩ := dec1_mem h
  refine ⟨by unfold fcD decN; simp, ?_⟩
  show (put p.2 S (p.1 + 1)).length = _
  rw [put_len]; exact (rchD hb hv hp).n.1⟩
theorem colO (b : GB) (a bgs : Nat) (hb : GOK b) (hne : b.n ≠ 0) (hv : ¬ Vt b.g 0 (List.replicate b.n 0)) : ColH b a 39 bgs (adO b.g) (nxO b.g) (fcO b.g) where
 step := fun bs bg p hp hk => step48_calls b a bgs bs bg p.1 p.2 hb hk (rchO hb hv hp).n hne (rchO hb hv hp).r
 pos := fun p hp => ⟨(rchO hb hv hp).n, (rchO hb hv hp).t⟩
 nxk := fun p hp hk => ⟨fun y hy => by unfold nxO at hy; obtain ⟨S, _, rfl⟩ := List.mem_map.1 hy; rfl, by unfold nxO; rw [List.length_map]; exact allCh_len (Nat.le_trans free_len hb.n)⟩
 ads := fun p hp hk => ⟨by unfold adO; have := dec1_len (k := p.1) (l := p.2) (d := gO b.g p.1 p.2); omega, fun d hd => by
  unfold adO at hd
  obtain ⟨_, rfl⟩ := dec1_mem hd
  exact ⟨by unfold fcO decN; simp, (rchO hb hv hp).n.1⟩⟩
theorem tree_gok {n T : Nat} {L C : List Lk} {A B : Option Addr} {ca cb m : Nat} (h : chkS n L C T = 0) : GOK ⟨n, T, L, C, A, B, ca, cb, m⟩ /\ n ≠ 0 /\ ∀ i x, C[i]? = some x -> Cal n x /\ into C x.to = some i := by
 obtain ⟨h0, h1, h2, h3, h4, h5⟩ := chkS_ok h
 obtain ⟨c1, c2, c3, c4, c5, c6⟩ := R23.chkU_ok h0
 rw [Int.toNat_natCast] at c6
 have hck : R22.chk n L = 0 := by
  by_cases hc : R22.chk n L = 0
  ·exact hc
  ·rw [R23.chkU_a hc] at h0; exact absurd h0 hc
 exact ⟨⟨by show n <= 6; omega, by show T <= 15; omega, fun x hx => c6.cal x hx, by show C.length <= 1000; omega, by show L.length <= 1000; omega, hck⟩, by omega, fun i x hx => ⟨c6.cal x (List.mem_of_getElem? hx), c6.one i x hx⟩⟩
end R24
end Go.Proofs

namespace Go.Kin.Sg
open Go.Kin.St Go.Kin.Ct
theorem into_drop {C : List Lk} {p : Int} : ∀ k, (∀ x ∈ C.take k, x.to ≠ p) -> into C p = (into (C.drop k) p).map (· + k) := by
 induction C with
 | nil => intro k _; simp [into]
 | cons y C ih =>
  intro k hk
  cases k with
  | zero => simp
  | succ k =>
   have h1 : y.to ≠ p := hk y (by simp)
   have h2 := ih k fun x hx => hk x (by simp [hx])
   rw [into, if_neg h1, h2, List.drop_succ_cons, Option.map_map]
   congr 1
theorem into_at {C : List Lk} {p : Int} {k : Nat} {x : Lk} (hk : ∀ x ∈ C.take k, x.to ≠ p) (hx : C[k]? = some x) (hp : x.to = p) : into C p = some k := by
 rw [into_drop k hk]
 obtain ⟨hlt, he⟩ := List.getElem?_eq_some_iff.1 hx
 rw [List.drop_eq_getElem_cons hlt, into, he, if_pos hp]
 simp
def fI (C : List Lk) (k : Nat) (p : Nat) : Int := match into (C.take k) p with | some i => (i : Int) + 1 | none => 0
theorem fI_0 {C : List Lk} : fI C 0 = fun _ => 0 := by funext p; unfold fI; rw [List.take_zero]; rfl
theorem into_snoc {C : List Lk} {x : Lk} {p : Int} : into (C ++ [x]) p = match into C p with | some i => some i | none => if x.to = p then some C.length else none := by
 induction C with
 | nil => simp only [List.nil_append, into]; split <;> rfl
 | cons y C ih =>
  simp only [List.cons_append, into]
  by_cases e : y.to = p
  ·rw [if_pos e, if_pos e]
  ·rw [if_neg e, if_neg e, ih]
   cases h : into C p with
   | some i => rfl
   | none =>
    simp only [Option.map_none]
    split
    ·simp
    ·rfl
theorem take_snoc {C : List Lk} {k : Nat} {x : Lk} (hx : C[k]? = some x) : C.take (k + 1) = C.take k ++ [x] := by rw [List.take_add_one, hx]; rfl
theorem take_len {C : List Lk} {k : Nat} {x : Lk} (hx : C[k]? = some x) : (C.take k).length = k := by
 have := (List.getElem?_eq_some_iff.1 hx).1
 rw [List.length_take]; omega
theorem fI_succ {C : List Lk} {k : Nat} {x : Lk} (hx : C[k]? = some x) (h0 : 0 <= x.to) (hn : into (C.take k) x.to = none) : iset (fI C k) x.to.toNat (k + 1) = fI C (k + 1) := by
 funext p
 unfold iset fI
 rw [take_snoc hx, into_snoc, take_len hx]
 by_cases e : p = x.to.toNat
 ·have e2 : (p : Int) = x.to := by omega
  rw [if_pos e, e2, hn]
  simp
 ·rw [if_neg e]
  cases h : into (C.take k) p with
  | some i => rfl
  | none =>
   simp only
   rw [if_neg (by omega)]
theorem into_first {C : List Lk} {k : Nat} {x : Lk} (hx : C[k]? = some x) : into C x.to = some k ↔ into (C.take k) x.to = none := by
 constructor
 ·intro h
  cases hi : into (C.take k) x.to with
  | none => rfl
  | some i =>
   obtain ⟨y, hy, hyp⟩ := into_some hi
   have hlt := into_lt hi
   rw [take_len hx] at hlt
   have h2 : ∀ (D E : List Lk) (p : Int) (i : Nat), into D p = some i -> into (D ++ E) p = some i := by
    intro D
    induction D with
    | nil => intro E p i h; cases h
    | cons z D ih =>
     intro E p i h
     rw [List.cons_append]
     rw [into] at h ⊢
     split
     ·rename_i e; rw [if_pos e] at h; exact h
     ·rename_i e
      rw [if_neg e] at h
      cases hj : into D p with
      | none => rw [hj] at h; cases h
      | some j => rw [hj] at h; rw [ih E p j hj]; exact h
   have h3 := h2 _ (C.drop k) _ _ hi
   rw [List.take_append_drop, h] at h3
   cases h3
   omega
 ·intro h
  exact into_at (into_none h) hx rfl
end Go.Kin.Sg
