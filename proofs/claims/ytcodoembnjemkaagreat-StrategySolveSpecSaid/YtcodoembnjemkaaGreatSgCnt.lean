/- Games on networks: Wins, Spoils and Solved of the specification. -/
import Derived.Test.YtcodoembnjemkaaGreatSgX8
import Derived.Test.YtcodoembnjemkaaGreatSgWn
import Derived.Test.YtcodoembnjemkaaGreatSgSq
import Derived.Test.YtcodoembnjemkaaGreatStAcc
import Derived.Test.YtcodoembnjemkaaGreatSgB
import Derived.Test.YtcodoembnjemkaaGreatSgInto
import Derived.Test.YtcodoembnjemkaaGreatSgTab
set_option maxRecDepth 100000
set_option maxHeartbeats 400000000
set_option linter.unusedSectionVars false
set_option linter.unusedVariables false
set_option linter.unusedSimpArgs false
namespace Go.Proofs
open Go.RowKit Go.Kin Go.Kin.St Go.Kin.Ct Go.Kin.Sg
namespace R24
theorem flat_zero (n : Nat) : (flat n fun _ => cellsL (.int .i64 0)) = flI (List.replicate n 0) := by
 have h : ∀ n, (List.range n).flatMap (fun _ => cellsL (.int .i64 0)) = List.replicate n (.int .i64 0) := fun n => by
  induction n with
  | zero => rfl
  | succ n ih => rw [List.range_succ, List.flatMap_append, ih, List.replicate_succ']; rfl
 rw [flI_eq, List.map_replicate]
 exact h n
theorem rfg_of {n T : Nat} {L C : List Lk} (h : chkS n L C T = 0) (hl : L.length <= 1000) (hc : C.length <= 1000) : RfG n T L C := by
 obtain ⟨h1, h2, h3⟩ := tree_gok (A := none) (B := none) (ca := 0) (cb := 0) (m := 0) h
 exact ⟨h2, h1.n, h1.T, hl, hc, fun x hx => by
  obtain ⟨i, hi, e⟩ := List.mem_iff_getElem.1 hx
  have := (h3 i x (by rw [List.getElem?_eq_getElem hi, e])).1
  exact ⟨this.1, this.2.1⟩, h1.ck⟩
theorem WinsR_calls (u : R23.Un) (T : Int) (S : Option Addr) (cs : Nat) (rows : List DW) (w : World) (hA : u.In w) (hl : u.L.length <= 1000) (hc : u.C.length <= 1000) (hS : StrIn w S rows) (hrl : rows.length <= 1000000) (hdl : ∀ r ∈ rows, r.l.length <= 1000 /\ r.d.length <= 1000) :
  Calls Tryz.prog 9 ⟨[.agg ⟨u.v⟩, .int .i64 T, .slice S rows.length cs]⟩ w fun e w' => e = .returned (winsV u.n u.L u.C T rows) /\ Below w.heap.size w w' := by
 have hrd : ∀ (mem : List (Nat × Obj)) (W : World), SatW w (base w) noJ mem W -> Calls Tryz.prog 29 ⟨[.agg ⟨u.v⟩, .int .i64 T, .slice S rows.length cs]⟩ W fun e w' => e = .returned (.int .i64 (rdC u.n u.L u.C T rows)) /\ Below W.heap.size W w' := fun mem W hW =>
  ckS36_calls u T S cs rows W (hA.sat hW) hl hc (hS.later hW.below) hrl fun r hr => by have := hdl r hr; omega
 obtain ⟨n, A, ca, L, B, cb, C⟩ := u
 simp only [R23.Un.v] at hl hc hrd ⊢
 refine fEn Tryz.func9 rfl Tryz.ntmps9 rfl rfl (sWn w) ?_
 repeat (first|refine lVa rfl rfl (by first|exact pEv rfl|exact vLd rfl (by repeat constructor) rfl (by rfl)|fail) ?_|refine lNi ?_|refine cRg ?_|refine cSq ?_|refine xTh ?_|refine r_box rfl rfl rfl rfl (fun _ => ?_)|fail)
 refine r_call rfl rfl rfl (fun W hW => hrd _ W hW) ?_
 by_cases h0 : rdC n L C T rows = 0
 rotate_left
 ·repeat (first|refine lVa rfl rfl (by first|exact pEv rfl|fail) ?_|refine lNi ?_|refine cRg ?_|refine cSq ?_|refine xTh ?_|refine c_dec_t rfl (by first|omega|fail) ?_|refine c_ret ?_|refine xTr ?_|fail)
  exact x_ret rfl rfl (by repeat constructor) rfl (fun W hW => ⟨by unfold winsV; rw [if_pos h0], hW.below⟩)
 obtain ⟨hck, hok⟩ := rdC_ok h0
 obtain ⟨c0, t1, t2, t3, t4, t5⟩ := chkS_ok hck
 obtain ⟨n1, n2⟩ := R23.chkU_ok c0
 obtain ⟨t, rfl⟩ : ∃ t : Nat, T = t := ⟨T.toNat, by omega⟩
 obtain ⟨N, rfl⟩ : ∃ N : Nat, n = N := ⟨n.toNat, by omega⟩
 rw [Int.toNat_natCast, Int.toNat_natCast] at hok
 have hG := rfg_of hck hl hc
 rw [h0]
 obtain ⟨l0, hl0⟩ : ∃ l0 : List Int, List.replicate N 0 = l0 := ⟨_, rfl⟩
 have hl0n : l0.length = N := by rw [<- hl0, List.length_replicate]
 obtain ⟨v, hv⟩ : ∃ v, wnG ⟨N, t, L, C⟩ rows = v := ⟨_, rfl⟩
 repeat ((fail_if_success refine c_probe (id := 4) ?_); (fail_if_success refine c_probe1 (id := 4) ?_); first|refine lVa rfl rfl (by first|exact pEv rfl|fail) ?_|refine lNi ?_|refine cRg ?_|refine cSq ?_|refine xTh ?_|refine c_false rfl ?_|refine cSk ?_|fail)
 refine cSq ?_
 refine c_new 0 1 [(5, .new 0), (6, .cal (.bool v))] [(5, [0]), (6, [])] [(6, 0)] rfl (by decide +kernel) rfl ?_
 repeat (first|refine e_val rfl rfl rfl rfl (by first|exact pEv rfl|exact vLd rfl (by repeat constructor) rfl (by rfl)|fail) ?_|fail)
 refine e_new rfl rfl rfl rfl (n_make (n := N) rfl rfl rfl rfl rfl (by omega) (by omega) rfl rfl ((flat_zero N).trans (by rw [hl0]))) (fun bk => ?_)
 refine e_call rfl rfl rfl rfl rfl (fun W hW => ?_) ?_
 ·have hat : At W (some ⟨bk, 0, none⟩) 1 (l0.map inE) := at_flI (r := []) hW (by rw [List.append_nil]; exact (by repeat constructor))
  have := desk30_calls N A ca L B cb C t S cs rows hG hrl hok (fun r hr => (hdl r hr).2) (t + 1) 0 (some ⟨bk, 0, none⟩) N l0 W (by omega) (hA.sat hW) (hS.sat hW) hat hl0n (fun q => by rw [<- hl0, kn_zero]; exact ⟨Int.le_refl _, Int.le_refl _⟩)
  rw [<- hl0] at this
  have h2 : wnP ⟨N, t, L, C⟩ (tabW rows) (t + 1) 0 (List.replicate N 0) = v := hv
  rw [h2, List.length_replicate] at this
  exact this
 repeat (first|refine xTh ?_|refine c_ret ?_|refine e_val rfl rfl rfl rfl (by first|exact pEv rfl|fail) ?_|refine e_nil rfl ?_|fail)
 exact x_ret rfl rfl (by repeat constructor) rfl (fun W hW => ⟨by unfold winsV; rw [if_neg (fun g => g h0), Int.toNat_natCast, Int.toNat_natCast, hv], hW.below⟩)
theorem SpoilsR_calls (u : R23.Un) (T : Int) (S : Option Addr) (cs : Nat) (rows : List DW) (w : World) (hA : u.In w) (hl : u.L.length <= 1000) (hc : u.C.length <= 1000) (hS : StrIn w S rows) (hrl : rows.length <= 1000000) (hdl : ∀ r ∈ rows, r.l.length <= 1000 /\ r.d.length <= 1000) :
  Calls Tryz.prog 11 ⟨[.agg ⟨u.v⟩, .int .i64 T, .slice S rows.length cs]⟩ w fun e w' => e = .returned (spoilsV u.n u.L u.C T rows) /\ Below w.heap.size w w' := by
 have hrd : ∀ (mem : List (Nat × Obj)) (W : World), SatW w (base w) noJ mem W -> Calls Tryz.prog 29 ⟨[.agg ⟨u.v⟩, .int .i64 T, .slice S rows.length cs]⟩ W fun e w' => e = .returned (.int .i64 (rdC u.n u.L u.C T rows)) /\ Below W.heap.size W w' := fun mem W hW =>
  ckS36_calls u T S cs rows W (hA.sat hW) hl hc (hS.later hW.below) hrl fun r hr => by have := hdl r hr; omega
 obtain ⟨n, A, ca, L, B, cb, C⟩ := u
 simp only [R23.Un.v] at hl hc hrd ⊢
 refine fEn Tryz.func11 rfl Tryz.ntmps11 rfl rfl (sWn w) ?_
 repeat (first|refine lVa rfl rfl (by first|exact pEv rfl|exact vLd rfl (by repeat constructor) rfl (by rfl)|fail) ?_|refine lNi ?_|refine cRg ?_|refine cSq ?_|refine xTh ?_|refine r_box rfl rfl rfl rfl (fun _ => ?_)|fail)
 refine r_call rfl rfl rfl (fun W hW => hrd _ W hW) ?_
 by_cases h0 : rdC n L C T rows = 0
 rotate_left
 ·repeat (first|refine lVa rfl rfl (by first|exact pEv rfl|fail) ?_|refine lNi ?_|refine cRg ?_|refine cSq ?_|refine xTh ?_|refine c_dec_t rfl (by first|omega|fail) ?_|refine c_ret ?_|refine xTr ?_|fail)
  exact x_ret rfl rfl (by repeat constructor) rfl (fun W hW => ⟨by unfold spoilsV; rw [if_pos h0], hW.below⟩)
 obtain ⟨hck, hok⟩ := rdC_ok h0
 obtain ⟨c0, t1, t2, t3, t4, t5⟩ := chkS_ok hck
 obtain ⟨n1, n2⟩ := R23.chkU_ok c0
 obtain ⟨t, rfl⟩ : ∃ t : Nat, T = t := ⟨T.toNat, by omega⟩
 obtain ⟨N, rfl⟩ : ∃ N : Nat, n = N := ⟨n.toNat, by omega⟩
 rw [Int.toNat_natCast, Int.toNat_natCast] at hok
 have hG := rfg_of hck hl hc
 rw [h0]
 obtain ⟨l0, hl0⟩ : ∃ l0 : List Int, List.replicate N 0 = l0 := ⟨_, rfl⟩
 have hl0n : l0.length = N := by rw [<- hl0, List.length_replicate]
 obtain ⟨v, hv⟩ : ∃ v, spG ⟨N, t, L, C⟩ rows = v := ⟨_, rfl⟩
 repeat ((fail_if_success refine c_probe (id := 4) ?_); (fail_if_success refine c_probe1 (id := 4) ?_); first|refine lVa rfl rfl (by first|exact pEv rfl|fail) ?_|refine lNi ?_|refine cRg ?_|refine cSq ?_|refine xTh ?_|refine c_false rfl ?_|refine cSk ?_|fail)
 refine cSq ?_
 refine c_new 0 1 [(5, .new 0), (6, .cal (.bool v))] [(5, [0]), (6, [])] [(6, 0)] rfl (by decide +kernel) rfl ?_
 repeat (first|refine e_val rfl rfl rfl rfl (by first|exact pEv rfl|exact vLd rfl (by repeat constructor) rfl (by rfl)|fail) ?_|fail)
 refine e_new rfl rfl rfl rfl (n_make (n := N) rfl rfl rfl rfl rfl (by omega) (by omega) rfl rfl ((flat_zero N).trans (by rw [hl0]))) (fun bk => ?_)
 refine e_call rfl rfl rfl rfl rfl (fun W hW => ?_) ?_
 ·have hat : At W (some ⟨bk, 0, none⟩) 1 (l0.map inE) := at_flI (r := []) hW (by rw [List.append_nil]; exact (by repeat constructor))
  have := oth34_calls N A ca L B cb C t S cs rows hG hrl hok (fun r hr => (hdl r hr).2) (t + 1) 0 (some ⟨bk, 0, none⟩) N l0 W (by omega) (hA.sat hW) (hS.sat hW) hat hl0n (fun q => by rw [<- hl0, kn_zero]; exact ⟨Int.le_refl _, Int.le_refl _⟩)
  rw [<- hl0] at this
  have h2 : spP ⟨N, t, L, C⟩ (tabW rows) (t + 1) 0 (List.replicate N 0) = v := hv
  rw [h2, List.length_replicate] at this
  exact this
 repeat (first|refine xTh ?_|refine c_ret ?_|refine e_val rfl rfl rfl rfl (by first|exact pEv rfl|fail) ?_|refine e_nil rfl ?_|fail)
 exact x_ret rfl rfl (by repeat constructor) rfl (fun W hW => ⟨by unfold spoilsV; rw [if_neg (fun g => g h0), Int.toNat_natCast, Int.toNat_natCast, hv], hW.below⟩)
noncomputable def slvV (n : Int) (L C : List Lk) (T : Int) : Value := if chkS n L C T ≠ 0 then .tuple ⟨[.bool false, .int .i64 (chkS n L C T)]⟩ else .tuple ⟨[.bool (vP ⟨n.toNat, T.toNat, L, C⟩ (T.toNat + 1) 0 (List.replicate n.toNat 0)), .int .i64 0]⟩
theorem Solved_calls (u : R23.Un) (T : Int) (w : World) (hA : u.In w) (hl : u.L.length <= 1000) (hc : u.C.length <= 1000) :
  Calls Tryz.prog 14 ⟨[.agg ⟨u.v⟩, .int .i64 T]⟩ w fun e w' => e = .returned (slvV u.n u.L u.C T) /\ Below w.heap.size w w' := by
 have hck : ∀ (mem : List (Nat × Obj)) (W : World), SatW w (base w) noJ mem W -> Calls Tryz.prog 20 ⟨[.agg ⟨u.v⟩, .int .i64 T]⟩ W fun e w' => e = .returned (.int .i64 (chkS u.n u.L u.C T)) /\ Below W.heap.size W w' := fun mem W hW =>
  CheckR_calls u T W (hA.sat hW) hl hc
 obtain ⟨n, A, ca, L, B, cb, C⟩ := u
 simp only [R23.Un.v] at hl hc hck ⊢
 refine fEn Tryz.func14 rfl Tryz.ntmps14 rfl rfl (sWn w) ?_
 repeat (first|refine lVa rfl rfl (by first|exact pEv rfl|exact vLd rfl (by repeat constructor) rfl (by rfl)|fail) ?_|refine lNi ?_|refine cRg ?_|refine cSq ?_|refine xTh ?_|refine r_box rfl rfl rfl rfl (fun _ => ?_)|fail)
 refine r_call rfl rfl rfl (fun W hW => hck _ W hW) ?_
 by_cases h0 : chkS n L C T = 0
 rotate_left
 ·repeat (first|refine lVa rfl rfl (by first|exact pEv rfl|fail) ?_|refine lNi ?_|refine cRg ?_|refine cSq ?_|refine xTh ?_|refine c_dec_t rfl (by first|omega|fail) ?_|refine c_ret ?_|refine xTr ?_|fail)
  exact x_ret rfl rfl (by repeat constructor) rfl (fun W hW => ⟨by unfold slvV; rw [if_pos h0], hW.below⟩)
 obtain ⟨c0, t1, t2, t3, t4, t5⟩ := chkS_ok h0
 obtain ⟨n1, n2⟩ := R23.chkU_ok c0
 obtain ⟨t, rfl⟩ : ∃ t : Nat, T = t := ⟨T.toNat, by omega⟩
 obtain ⟨N, rfl⟩ : ∃ N : Nat, n = N := ⟨n.toNat, by omega⟩
 have hG := rfg_of h0 hl hc
 obtain ⟨l0, hl0⟩ : ∃ l0 : List Int, List.replicate N 0 = l0 := ⟨_, rfl⟩
 have hl0n : l0.length = N := by rw [<- hl0, List.length_replicate]
 obtain ⟨v, hv⟩ : ∃ v, vP ⟨N, t, L, C⟩ (t + 1) 0 (List.replicate N 0) = v := ⟨_, rfl⟩
 rw [h0]
 repeat ((fail_if_success refine c_probe (id := 4) ?_); (fail_if_success refine c_probe1 (id := 4) ?_); first|refine lVa rfl rfl (by first|exact pEv rfl|fail) ?_|refine lNi ?_|refine cRg ?_|refine cSq ?_|refine xTh ?_|refine c_false rfl ?_|refine cSk ?_|fail)
 refine cSq ?_
 refine c_new 0 1 [(4, .new 0), (5, .cal (.bool v))] [(4, [0]), (5, [])] [(5, 0)] rfl (by decide +kernel) rfl ?_
 repeat (first|refine e_val rfl rfl rfl rfl (by first|exact pEv rfl|exact vLd rfl (by repeat constructor) rfl (by rfl)|fail) ?_|fail)
 refine e_new rfl rfl rfl rfl (n_make (n := N) rfl rfl rfl rfl rfl (by omega) (by omega) rfl rfl ((flat_zero N).trans (by rw [hl0]))) (fun bk => ?_)
 refine e_call rfl rfl rfl rfl rfl (fun W hW => ?_) ?_
 ·have hat : At W (some ⟨bk, 0, none⟩) 1 (l0.map inE) := at_flI (r := []) hW (by rw [List.append_nil]; exact (by repeat constructor))
  have := wins40_calls N A ca L B cb C t hG (t + 1) 0 (some ⟨bk, 0, none⟩) N l0 W (by omega) (hA.sat hW) hat hl0n (fun q => by rw [<- hl0, kn_zero]; exact ⟨Int.le_refl _, Int.le_refl _⟩)
  rw [<- hl0, hv, List.length_replicate] at this
  exact this
 repeat (first|refine xTh ?_|refine c_ret ?_|refine e_val rfl rfl rfl rfl (by first|exact pEv rfl|fail) ?_|refine e_nil rfl ?_|fail)
 exact x_ret rfl rfl (by repeat constructor) rfl (fun W hW => ⟨by unfold slvV; rw [if_neg (fun g => g h0), Int.toNat_natCast, Int.toNat_natCast, hv], hW.below⟩)
end R24
end Go.Proofs

namespace Go.Kin.Sg
def kB (G : Gm) (l : List Int) : Bool := (List.range G.n).all (fun q => decide (kn l q ≠ 0)) && G.L.all fun x => decide (x.lo <= kn l x.to.toNat - kn l x.fr.toNat /\ kn l x.to.toNat - kn l x.fr.toNat <= x.hi)
theorem kB_iff {G : Gm} {l : List Int} : kB G l = true ↔ keptP G l := by
 unfold kB keptP
 rw [Bool.and_eq_true, List.all_eq_true, List.all_eq_true]
 constructor
 ·rintro ⟨h1, h2⟩
  exact ⟨fun q hq => of_decide_eq_true (h1 q (List.mem_range.2 hq)), fun x hx => of_decide_eq_true (h2 x hx)⟩
 ·rintro ⟨h1, h2⟩
  exact ⟨fun q hq => decide_eq_true (h1 q (List.mem_range.1 hq)), fun x hx => decide_eq_true (h2 x hx)⟩
def VB (G : Gm) : Nat -> Nat -> List Int -> Bool
 | 0, _, l => kB G l
 | f + 1, k, l => (allCh (may G k l) (due G k l)).all fun S => (allCh (free G (put l S (k + 1))) []).any fun D => VB G f (k + 1) (put (put l S (k + 1)) D (k + 1))
theorem VB_iff {G : Gm} : ∀ {f k : Nat} {l : List Int}, VB G f k l = true ↔ V G f k l
 | 0, _, _ => kB_iff
 | f + 1, k, l => by
  unfold VB V
  rw [List.all_eq_true]
  constructor
  ·intro h S hS
   obtain ⟨D, h1, h2⟩ := List.any_eq_true.1 (h S (ch_mem.1 hS))
   exact ⟨D, free_ch.2 h1, VB_iff.1 h2⟩
  ·intro h S hS
   obtain ⟨D, h1, h2⟩ := h S (ch_mem.2 hS)
   exact List.any_eq_true.2 ⟨D, free_ch.1 h1, VB_iff.2 h2⟩
theorem Vt_dec {G : Gm} {v : Bool} (h : VB G (G.T + 1) 0 (List.replicate G.n 0) = v) : Vt G 0 (List.replicate G.n 0) ↔ v = true := by
 rw [<- h]; exact VB_iff.symm
/-! ## The games of sane -/
theorem v_f3 : VB ⟨3, 3, [⟨1, 2, 1, 1⟩], [⟨0, 1, 1, 2⟩]⟩ 4 0 [0, 0, 0] = true := by decide +kernel
theorem v_f2 : VB ⟨3, 2, [⟨1, 2, 1, 1⟩], [⟨0, 1, 1, 2⟩]⟩ 3 0 [0, 0, 0] = false := by decide +kernel
theorem v_g9 : VB ⟨3, 9, [⟨1, 2, -1, -1⟩], [⟨0, 1, 1, 2⟩]⟩ 10 0 [0, 0, 0] = false := by decide +kernel
theorem v_one : VB ⟨1, 1, [], []⟩ 2 0 [0] = true := by decide +kernel
end Go.Kin.Sg

set_option maxRecDepth 100000
set_option maxHeartbeats 400000000
namespace Go.Proofs
open Go.RowKit Go.Kin Go.Kin.St Go.Kin.Ct Go.Kin.Sg
namespace R24
def foL (lo hi : Int) : Lk := ⟨1, 2, lo, hi⟩
def foC : Lk := ⟨0, 1, 1, 2⟩
theorem follows_calls (lo hi : Int) (w : World) :
  Calls Tryz.prog 15 ⟨[.int .i64 lo, .int .i64 hi]⟩ w fun e w' => ∃ i : Nat × Nat, e = .returned (.agg ⟨[.int .i64 3, .slice (some ⟨i.1, 0, none⟩) 1 1, .slice (some ⟨i.2, 0, none⟩) 1 1]⟩) /\ Below w.heap.size w w' /\ ((([(i.1, Obj.cells ⟨lkE (foL lo hi)⟩ 76 (0, 0)), (i.2, Obj.cells ⟨lkE foC⟩ 76 (0, 0))] : List (Nat × Obj))).map (·.1)).Nodup /\ ∀ p ∈ ([(i.1, Obj.cells ⟨lkE (foL lo hi)⟩ 76 (0, 0)), (i.2, Obj.cells ⟨lkE foC⟩ 76 (0, 0))] : List (Nat × Obj)), w.heap.size <= p.1 /\ w'.heap[p.1]? = some p.2 := by
 refine fEn Tryz.func15 rfl Tryz.ntmps15 rfl rfl (sWn w) ?_
 repeat (first|refine r_alloc rfl rfl rfl rfl (fun _ => ?_)|refine lVa rfl rfl (by first|exact pEv rfl|exact v_build rfl rfl (by rfl)|fail) ?_|refine lNi ?_|refine cRg ?_|refine cSq ?_|refine xTh ?_|refine rSt rfl rfl rfl rfl rfl rfl rfl (by repeat constructor) (by rfl) ?_|refine r_buildSlice rfl rfl rfl rfl rfl rfl (by rfl) (fun _ => ?_)|refine c_ret ?_|fail)
 rename_i b4 b1 b2
 refine x_ret rfl rfl (by apply Res.cell; rfl; exact (by repeat constructor); rfl; rfl; exact Res.nil) rfl (fun W hW => ?_)
 have h3 : SatW w (base w) noJ [(b2, Obj.cells ⟨lkE (foL lo hi)⟩ 76 (0, 0)), (b1, Obj.cells ⟨lkE foC⟩ 76 (0, 0))] W := hW.mono (List.sublist_append_left [(b2, Obj.cells ⟨lkE (foL lo hi)⟩ 76 (0, 0)), (b1, Obj.cells ⟨lkE foC⟩ 76 (0, 0))] [_])
 exact ⟨(b2, b1), rfl, hW.below, h3.nodup, fun p hp => ⟨Nat.le_of_not_lt (h3.own p hp).1, (h3.own p hp).2⟩⟩
end R24
end Go.Proofs

namespace Go.Proofs
open Go.RowKit Go.Kin Go.Kin.St Go.Kin.Ct Go.Kin.Sg
namespace R24
/-- the rows hold what has been collected -/
def Holds24 (G : Gm) (ad : Pos -> List Dec) (nx : Pos -> List Pos) (rows : List DW) : Prop := ∀ d : Dec, (∃ r ∈ rows, r.k = d.k /\ r.l = d.l /\ r.d = d.d) ↔ ∃ p, Rch nx G.T (0, List.replicate G.n 0) p /\ p.1 <= G.T /\ d ∈ ad p
theorem rd_rch {G : Gm} {k : Nat} {l : List Int} (h : RD G (gD G) k l) : Rch (nxD G) G.T (0, List.replicate G.n 0) (k, l) := by
 induction h with
 | start => exact .start
 | step hr hk hS ih => exact .step ih hk (List.mem_map.2 ⟨_, ch_mem.1 hS, rfl⟩)
theorem rs_nv {G : Gm} (hv : ¬ Vt G 0 (List.replicate G.n 0)) {k : Nat} {l : List Int} (h : Sg.RS G (gO G) k l) : ¬ Vt G k l := by
 induction h with
 | start => exact hv
 | step hr hk hD ih => exact (gO_good hk ih).2.2 _ hD
theorem rs_rch {G : Gm} {k : Nat} {l : List Int} (h : Sg.RS G (gO G) k l) : Rch (nxO G) G.T (0, List.replicate G.n 0) (k, l) := by
 induction h with
 | start => exact .start
 | step hr hk hD ih => exact .step ih hk (List.mem_map.2 ⟨_, free_ch.1 hD, rfl⟩)
theorem toN_nat (d : List Nat) : toN (d.map fun x : Nat => (x : Int)) = d := by
 unfold toN
 rw [List.map_map]
 exact (List.map_congr_left fun x _ => by simp).trans (List.map_id _)
/-- the table of what has been collected -/
theorem tab_of {G : Gm} {ad : Pos -> List Dec} {nx : Pos -> List Pos} {rows : List DW} (h : Holds24 G ad nx rows) {k : Nat} {q : List Int} {D : List Nat}
  (h1 : D ≠ [] -> ∃ p, Rch nx G.T (0, List.replicate G.n 0) p /\ p.1 <= G.T /\ decN k q D ∈ ad p) (h2 : ∀ p d, Rch nx G.T (0, List.replicate G.n 0) p -> p.1 <= G.T -> d ∈ ad p -> d.k = k -> d.l = q -> D ≠ [] /\ d.d = D.map fun x : Nat => (x : Int)) : tabW rows k q = if D = [] then none else some D := by
 unfold tabW
 cases hr : rowOf rows k q with
 | none =>
  by_cases hD : D = []
  ·rw [if_pos hD]; rfl
  ·obtain ⟨r, hm, e1, e2, e3⟩ := (h (decN k q D)).2 (h1 hD)
   unfold rowOf at hr
   have := List.find?_eq_none.1 hr r hm
   exact absurd (by rw [e1, e2]; simp [decN]) this
 | some r =>
  obtain ⟨hm, e1, e2⟩ := rowOf_some hr
  obtain ⟨p, hp, hpk, hpd⟩ := (h ⟨r.k, r.l, r.d⟩).1 ⟨r, hm, rfl, rfl, rfl⟩
  obtain ⟨g1, g2⟩ := h2 p _ hp hpk hpd e1 e2
  rw [if_neg g1]
  have g2 : r.d = D.map fun x : Nat => (x : Int) := g2
  simp only [Option.map_some]
  rw [g2, toN_nat]
theorem Wn_sol {G : Gm} {rows : List DW} (h : Holds24 G (adD G) (nxD G) rows) (hv : Vt G 0 (List.replicate G.n 0)) : Wn G (tabW rows) (G.T + 1) 0 (List.replicate G.n 0) := by
 refine Wn_of (g := gD G) (fun k l f S hk hr hS hv => ?_) (fun k l S hk hr hS => ?_) (G.T + 1) 0 _ (by omega) .start hv
 ·have hv2 : Vt G k l := by unfold Vt; rw [show G.T + 1 - k = f + 1 by omega]; exact hv
  have := gD_good (show k <= G.T by omega) hS hv2
  refine ⟨this.2.1, ?_⟩
  have h3 := this.2.2
  unfold Vt at h3
  rw [show G.T + 1 - (k + 1) = f by omega] at h3
  exact h3
 ·have ht := tab_of h (k := k) (q := put l S (k + 1)) (D := gD G k (put l S (k + 1))) (fun hne => ⟨(k, l), rd_rch hr, hk, List.mem_flatMap.2 ⟨S, ch_mem.1 hS, by unfold dec1; rw [if_neg hne]; exact List.mem_singleton.2 rfl⟩⟩) (fun p d hp hpk hd e1 e2 => by
   unfold adD at hd
   obtain ⟨S', _, hd⟩ := List.mem_flatMap.1 hd
   obtain ⟨g1, rfl⟩ := dec1_mem hd
   have e1 : ((p.1 : Nat) : Int) = k := e1
   have e1 : p.1 = k := by omega
   have e2 : put p.2 S' (p.1 + 1) = put l S (k + 1) := e2
   rw [e2, e1] at g1
   refine ⟨g1, ?_⟩
   show (gD G p.1 (put p.2 S' (p.1 + 1))).map _ = _
   rw [e2, e1])
  unfold doD
  rw [ht]
  split
  ·rename_i h0; rw [h0]; rfl
  ·rfl
theorem Sp_sol {G : Gm} {rows : List DW} (h : Holds24 G (adO G) (nxO G) rows) (hv : ¬ Vt G 0 (List.replicate G.n 0)) : Sp G (tabW rows) (G.T + 1) 0 (List.replicate G.n 0) := by
 refine Sp_of (g := gO G) (fun k l f hk hr hv => ?_) (fun k l hk hr => ?_) (G.T + 1) 0 _ (by omega) .start hv
 ·have hv2 : ¬ Vt G k l := by unfold Vt; rw [show G.T + 1 - k = f + 1 by omega]; exact hv
  have := gO_good (show k <= G.T by omega) hv2
  refine ⟨this.2.1, fun D hD => ?_⟩
  have h3 := this.2.2 D hD
  unfold Vt at h3
  rw [show G.T + 1 - (k + 1) = f by omega] at h3
  exact h3
 ·have ht := tab_of h (k := k) (q := l) (D := gO G k l) (fun hne => ⟨(k, l), rs_rch hr, hk, by unfold adO dec1; rw [if_neg hne]; exact List.mem_singleton.2 rfl⟩) (fun p d hp hpk hd e1 e2 => by
   unfold adO at hd
   obtain ⟨g1, rfl⟩ := dec1_mem hd
   have e1 : ((p.1 : Nat) : Int) = k := e1
   have e1 : p.1 = k := by omega
   have e2 : p.2 = l := e2
   rw [e2, e1] at g1
   refine ⟨g1, ?_⟩
   show (gO G p.1 p.2).map _ = _
   rw [e2, e1])
  unfold doS
  rw [ht]
  split
  ·rename_i h0
   have hg := (gO_good hk (rs_nv hv hr)).2.1.2
   rw [h0] at hg ⊢
   exact List.eq_nil_iff_forall_not_mem.2 fun x hx => by cases hg x hx
  ·rfl
end R24
end Go.Proofs

namespace Go.Proofs
open Go.RowKit Go.Kin Go.Kin.St Go.Kin.Ct Go.Kin.Sg
namespace R24
def drW (r : DR) : DW := ⟨r.k, r.l, r.d.map fun x : Nat => (x : Int), some ⟨r.bk, 0, none⟩, r.ck, some ⟨r.bd, 0, none⟩, r.cd⟩
theorem drW_E (r : DR) : dwE (drW r) = drE r := by unfold dwE drW drE; simp
theorem drW_dec (r : DR) : (⟨(drW r).k, (drW r).l, (drW r).d⟩ : Dec) = r.dec := rfl
theorem holds_of {G : Gm} {ad : Pos -> List Dec} {nx : Pos -> List Pos} {i : SolI} (h : i.OK G ad nx) : Holds24 G ad nx (i.rows.map drW) := fun d => by
 rw [<- h.d]
 constructor
 ·rintro ⟨r, hr, e1, e2, e3⟩
  obtain ⟨x, hx, rfl⟩ := List.mem_map.1 hr
  refine List.mem_map.2 ⟨x, hx, ?_⟩
  rw [<- drW_dec, e1, e2, e3]
 ·intro hd
  obtain ⟨x, hx, rfl⟩ := List.mem_map.1 hd
  exact ⟨drW x, List.mem_map.2 ⟨x, hx, rfl⟩, rfl, rfl, rfl⟩
theorem okD_nat {n : Nat} {D : List Nat} (h1 : D.Pairwise (· < ·)) (h2 : ∀ x ∈ D, x < n) : okD n (D.map fun x : Nat => (x : Int)) := fun i x hx => by
 rw [List.getElem?_map] at hx
 obtain ⟨y, hy, rfl⟩ := Option.map_eq_some_iff.1 hx
 have hyn := h2 y (List.mem_of_getElem? hy)
 refine ⟨?_, by omega⟩
 cases i with
 | zero => show (-1 : Int) < _; omega
 | succ i =>
  have hlt := (List.getElem?_eq_some_iff.1 hy).1
  have h3 := (List.pairwise_iff_getElem.1 h1) i (i + 1) (by omega) hlt (by omega)
  have h4 : D[i + 1] = y := (List.getElem?_eq_some_iff.1 hy).2
  show (List.map (fun x : Nat => (x : Int)) D).getD i 0 < _
  rw [List.getD_eq_getElem?_getD, List.getElem?_map, List.getElem?_eq_getElem (show i < D.length by omega)]
  simp only [Option.map_some, Option.getD_some]
  omega
def leP (p : Pos) : Prop := ∀ x ∈ p.2, 0 <= x /\ x <= p.1
theorem put_leP {k : Nat} {l : List Int} {S : List Nat} (h : ∀ x ∈ l, 0 <= x /\ x <= k + 1) : ∀ x ∈ put l S (k + 1), 0 <= x /\ x <= (k : Int) + 1 := fun x hx => by
 rcases put_mem hx with h1 | h1
 ·exact h x h1
 ·omega
theorem start_leP (n : Nat) : leP (0, List.replicate n 0) := fun x hx => by rw [(List.mem_replicate.1 hx).2]; exact ⟨Int.le_refl _, by show (0 : Int) <= ((0 : Nat) : Int); omega⟩
theorem leD {G : Gm} {p : Pos} (h : Rch (nxD G) G.T (0, List.replicate G.n 0) p) : leP p := by
 induction h with
 | start => exact start_leP _
 | step hr hk hy ih =>
  unfold nxD at hy
  obtain ⟨S, _, rfl⟩ := List.mem_map.1 hy
  intro x hx
  have h1 := put_leP (put_leP (S := S) fun x hx => by have := ih x hx; omega) x hx
  exact ⟨h1.1, by have := h1.2; simp only; omega⟩
theorem leO {G : Gm} {p : Pos} (h : Rch (nxO G) G.T (0, List.replicate G.n 0) p) : leP p := by
 induction h with
 | start => exact start_leP _
 | step hr hk hy ih =>
  unfold nxO at hy
  obtain ⟨S, _, rfl⟩ := List.mem_map.1 hy
  intro x hx
  have h1 := put_leP (put_leP (S := gO G _ _) fun x hx => by have := ih x hx; omega) x hx
  exact ⟨h1.1, by have := h1.2; simp only; omega⟩
/-- a decision that is right by itself -/
structure okX (n T : Nat) (d : Dec) : Prop where
 k0 : 0 <= d.k
 kT : d.k <= T
 l : d.l.length = n
 ne : d.d ≠ []
 o : okD n d.d
 e : okL d.k d.l
theorem okS_of {n T : Nat} {i : SolI} {ad : Pos -> List Dec} {nx : Pos -> List Pos} {G : Gm} (h : i.OK G ad nx) (hx : ∀ d ∈ i.rows.map DR.dec, okX n T d) : okS n T (i.rows.map drW) := fun j r hr => by
 rw [List.getElem?_map] at hr
 obtain ⟨x, hxj, rfl⟩ := Option.map_eq_some_iff.1 hr
 have ho := hx x.dec (List.mem_map.2 ⟨x, List.mem_of_getElem? hxj, rfl⟩)
 refine ⟨ho.k0, ho.kT, ho.l, ho.ne, fun j' p e hp => ?_, ho.o, ho.e⟩
 subst e
 rw [List.getElem?_map] at hp
 obtain ⟨y, hy, rfl⟩ := Option.map_eq_some_iff.1 hp
 obtain ⟨hl1, e1⟩ := List.getElem?_eq_some_iff.1 hxj
 obtain ⟨hl2, e2⟩ := List.getElem?_eq_some_iff.1 hy
 have := (List.pairwise_iff_getElem.1 h.s) j' (j' + 1) hl2 hl1 (by omega)
 rw [e1, e2] at this
 exact this
theorem okX_D {b : GB} (hb : GOK b) (hv : Vt b.g 0 (List.replicate b.n 0)) {p : Pos} (hp : Rch (nxD b.g) b.T (0, List.replicate b.n 0) p) (hk : p.1 <= b.T) {d : Dec} (hd : d ∈ adD b.g p) : okX b.n b.T d := by
 unfold adD at hd
 obtain ⟨S, hS, hd⟩ := List.mem_flatMap.1 hd
 obtain ⟨g1, rfl⟩ := dec1_mem hd
 have hr := rchD hb hv hp
 have hg := (gD_good hk (ch_mem.2 hS) hr.r).2.1
 refine ⟨by show (0 : Int) <= ((p.1 : Nat) : Int); omega, by show ((p.1 : Nat) : Int) <= _; omega, ?_, ?_, ?_, ?_⟩
 ·show (put p.2 S (p.1 + 1)).length = _
  rw [put_len]; exact hr.n.1
 ·exact fun h => g1 (List.map_eq_nil_iff.1 h)
 ·exact okD_nat ((free_inc b.g _).sublist hg) fun x hx => free_lt x (hg.subset hx)
 ·exact put_leP (k := p.1) fun x hx => by have h := leD (G := b.g) hp x hx; exact ⟨h.1, by have := h.2; omega⟩
theorem okX_O {b : GB} (hb : GOK b) (hv : ¬ Vt b.g 0 (List.replicate b.n 0)) {p : Pos} (hp : Rch (nxO b.g) b.T (0, List.replicate b.n 0) p) (hk : p.1 <= b.T) {d : Dec} (hd : d ∈ adO b.g p) : okX b.n b.T d := by
 unfold adO at hd
 obtain ⟨g1, rfl⟩ := dec1_mem hd
 have hr := rchO hb hv hp
 have hg := (gO_good hk hr.r).2.1.1
 refine ⟨by show (0 : Int) <= ((p.1 : Nat) : Int); omega, by show ((p.1 : Nat) : Int) <= _; omega, hr.n.1, ?_, ?_, ?_⟩
 ·exact fun h => g1 (List.map_eq_nil_iff.1 h)
 ·exact okD_nat ((may_inc b.g _ _).sublist hg) fun x hx => may_lt' x (hg.subset hx)
 ·exact fun x hx => by have := leO (G := b.g) hp x hx; exact ⟨this.1, by show x <= ((p.1 : Nat) : Int) + 1; omega⟩
end R24
end Go.Proofs

namespace Go.Proofs
open Go.RowKit Go.Kin Go.Kin.St Go.Kin.Ct Go.Kin.Sg
namespace R24
theorem may_called {G : Gm} {k : Nat} {l : List Int} {q : Nat} (h : q ∈ may G k l) : kn l q = 0 /\ into G.C q ≠ none := by
 have h2 := (List.mem_filter.1 h).2
 unfold mayB mayF wtF lnk at h2
 cases hi : into G.C q with
 | none => rw [hi] at h2; cases h2
 | some i =>
  refine ⟨?_, by simp⟩
  rw [hi] at h2
  simp only [Option.bind_some] at h2
  cases hx : G.C[i]? with
  | none => rw [hx] at h2; cases h2
  | some x =>
   rw [hx] at h2
   simp only at h2
   by_cases h3 : kn l q = 0 /\ kn l x.fr.toNat ≠ 0
   ·exact h3.1
   ·rw [if_neg h3] at h2; cases h2
theorem gD_free {G : Gm} {k : Nat} {q : List Int} : ∀ x ∈ gD G k q, x ∈ free G q := fun x hx => by
 unfold gD at hx
 cases hf : fD G k q with
 | none => rw [hf] at hx; cases hx
 | some D => rw [hf] at hx; exact (fD_some hf).1.subset hx
theorem gO_may {G : Gm} {k : Nat} {l : List Int} : ∀ x ∈ gO G k l, x ∈ may G k l := fun x hx => by
 unfold gO at hx
 cases hf : fO G k l with
 | none => rw [hf] at hx; cases hx
 | some S => rw [hf] at hx; exact (fO_some hf).1.1.subset hx
theorem lenD {G : Gm} {p : Pos} (h : Rch (nxD G) G.T (0, List.replicate G.n 0) p) : p.2.length = G.n := by
 induction h with
 | start => exact List.length_replicate
 | step hr hk hy ih =>
  unfold nxD at hy
  obtain ⟨S, _, rfl⟩ := List.mem_map.1 hy
  simp only [put_len]; exact ih
theorem lenO {G : Gm} {p : Pos} (h : Rch (nxO G) G.T (0, List.replicate G.n 0) p) : p.2.length = G.n := by
 induction h with
 | start => exact List.length_replicate
 | step hr hk hy ih =>
  unfold nxO at hy
  obtain ⟨S, _, rfl⟩ := List.mem_map.1 hy
  simp only [put_len]; exact ih
/-- the same choice from the same position, as far as one kind of points tells -/
theorem step_same {n k : Nat} {c : Nat -> Prop} {m m' : List Int} {S S' : List Nat} (hl : m.length = n) (hl' : m'.length = n) (hm : ∀ x ∈ m, 0 <= x /\ x <= (k : Int)) (hm' : ∀ x ∈ m', 0 <= x /\ x <= (k : Int)) (hS : ∀ q ∈ S, q < n /\ c q /\ kn m q = 0) (hS' : ∀ q ∈ S', q < n /\ c q /\ kn m' q = 0)
  (h : ∀ q, q < n -> c q -> kn (put m S (k + 1)) q = kn (put m' S' (k + 1)) q) : (∀ q, q ∈ S ↔ q ∈ S') /\ ∀ q, q < n -> c q -> kn m q = kn m' q := by
 have hle : ∀ {l : List Int}, l.length = n -> (∀ x ∈ l, 0 <= x /\ x <= (k : Int)) -> ∀ q, q < n -> kn l q <= k := fun {l} h1 h2 q hq => (h2 _ (List.mem_of_getElem? (kn_at (by omega)))).2
 have hkey : ∀ q, q < n -> c q -> (q ∈ S ↔ q ∈ S') := fun q hq hc => by
  have h1 := h q hq hc
  rw [put_kn (by omega), put_kn (by omega)] at h1
  have h2 := hle hl hm q hq
  have h3 := hle hl' hm' q hq
  constructor
  ·intro hs
   rw [if_pos hs] at h1
   by_cases hs' : q ∈ S'
   ·exact hs'
   ·rw [if_neg hs'] at h1; omega
  ·intro hs
   rw [if_pos hs] at h1
   by_cases hs' : q ∈ S
   ·exact hs'
   ·rw [if_neg hs'] at h1; omega
 refine ⟨fun q => ⟨fun hs => (hkey q (hS q hs).1 (hS q hs).2.1).1 hs, fun hs => (hkey q (hS' q hs).1 (hS' q hs).2.1).2 hs⟩, fun q hq hc => ?_⟩
 by_cases hs : q ∈ S
 ·rw [(hS q hs).2.2, (hS' q ((hkey q hq hc).1 hs)).2.2]
 ·have h1 := h q hq hc
  rw [put_kn (by omega), put_kn (by omega), if_neg hs, if_neg (fun g => hs ((hkey q hq hc).2 g))] at h1
  exact h1
theorem invD {G : Gm} {k : Nat} {l : List Int} (h : Rch (nxD G) G.T (0, List.replicate G.n 0) (k, l)) : (k = 0 /\ l = List.replicate G.n 0) ∨ ∃ j m S, k = j + 1 /\ l = put (put m S (j + 1)) (gD G j (put m S (j + 1))) (j + 1) /\ Rch (nxD G) G.T (0, List.replicate G.n 0) (j, m) /\ S ∈ allCh (may G j m) (Sg.due G j m) := by
 cases h with
 | start => exact .inl ⟨rfl, rfl⟩
 | step hr hk hy =>
  rename_i p
  unfold nxD at hy
  obtain ⟨S, hS, e⟩ := List.mem_map.1 hy
  cases e
  exact .inr ⟨p.1, p.2, S, rfl, rfl, hr, hS⟩
theorem invO {G : Gm} {k : Nat} {l : List Int} (h : Rch (nxO G) G.T (0, List.replicate G.n 0) (k, l)) : (k = 0 /\ l = List.replicate G.n 0) ∨ ∃ j m E, k = j + 1 /\ l = put (put m (gO G j m) (j + 1)) E (j + 1) /\ Rch (nxO G) G.T (0, List.replicate G.n 0) (j, m) /\ E ∈ allCh (free G (put m (gO G j m) (j + 1))) [] := by
 cases h with
 | start => exact .inl ⟨rfl, rfl⟩
 | step hr hk hy =>
  rename_i p
  unfold nxO at hy
  obtain ⟨E, hE, e⟩ := List.mem_map.1 hy
  cases e
  exact .inr ⟨p.1, p.2, E, rfl, rfl, hr, hE⟩
/-- what Solve meets, told by the called points -/
theorem uniD {G : Gm} : ∀ (k : Nat) {l l' : List Int}, Rch (nxD G) G.T (0, List.replicate G.n 0) (k, l) -> Rch (nxD G) G.T (0, List.replicate G.n 0) (k, l') -> (∀ q, q < G.n -> into G.C q ≠ none -> kn l q = kn l' q) -> l = l'
 | 0, l, l', h, h', _ => by
  rcases invD h with ⟨_, e⟩ | ⟨j, m, S, e, _⟩
  ·rcases invD h' with ⟨_, e'⟩ | ⟨j, m, S, e', _⟩
   ·rw [e, e']
   ·omega
  ·omega
 | k + 1, l, l', h, h', hq => by
  rcases invD h with ⟨e, _⟩ | ⟨j, m, S, e, rfl, hr, hS⟩
  ·omega
  rcases invD h' with ⟨e', _⟩ | ⟨j', m', S', e', rfl, hr', hS'⟩
  ·omega
  have e1 : j = k := by omega
  have e2 : j' = k := by omega
  subst e1; subst e2
  have hlen := lenD hr
  have hlen' := lenD hr'
  have hsc : ∀ {m : List Int} {S : List Nat}, S ∈ allCh (may G j' m) (Sg.due G j' m) -> ∀ q ∈ S, q < G.n /\ into G.C q ≠ none /\ kn m q = 0 := fun hS q hqs => by
   have hm := (mem_allCh.1 hS).1.subset hqs
   exact ⟨may_lt hm, (may_called hm).2, (may_called hm).1⟩
  have hdn : ∀ {m : List Int} {S : List Nat} {q : Nat}, m.length = G.n -> q < G.n -> into G.C q ≠ none -> kn (put (put m S (j' + 1)) (gD G j' (put m S (j' + 1))) (j' + 1)) q = kn (put m S (j' + 1)) q := fun {m S q} hl hqn hc => by
   rw [put_kn (by rw [put_len]; omega), if_neg fun hg => hc (free_mem.1 (gD_free q hg)).2.1]
  obtain ⟨h1, h2⟩ := step_same (c := fun q => into G.C q ≠ none) hlen hlen' (leD hr) (leD hr') (hsc hS) (hsc hS') fun q hqn hc => by
   have := hq q hqn hc
   rw [hdn hlen hqn hc, hdn hlen' hqn hc] at this
   exact this
  have em : m = m' := uniD j' hr hr' h2
  subst em
  rw [put_congr h1]
/-- what Spoil meets, told by the executable points -/
theorem uniO {G : Gm} : ∀ (k : Nat) {l l' : List Int}, Rch (nxO G) G.T (0, List.replicate G.n 0) (k, l) -> Rch (nxO G) G.T (0, List.replicate G.n 0) (k, l') -> (∀ q, q < G.n -> into G.C q = none -> kn l q = kn l' q) -> l = l'
 | 0, l, l', h, h', _ => by
  rcases invO h with ⟨_, e⟩ | ⟨j, m, S, e, _⟩
  ·rcases invO h' with ⟨_, e'⟩ | ⟨j, m, S, e', _⟩
   ·rw [e, e']
   ·omega
  ·omega
 | k + 1, l, l', h, h', hq => by
  rcases invO h with ⟨e, _⟩ | ⟨j, m, E, e, rfl, hr, hE⟩
  ·omega
  rcases invO h' with ⟨e', _⟩ | ⟨j', m', E', e', rfl, hr', hE'⟩
  ·omega
  have e1 : j = k := by omega
  have e2 : j' = k := by omega
  subst e1; subst e2
  have hlen := lenO hr
  have hlen' := lenO hr'
  have hgn : ∀ {m : List Int} {q : Nat}, m.length = G.n -> q < G.n -> into G.C q = none -> kn (put m (gO G j' m) (j' + 1)) q = kn m q := fun {m q} hl hqn hc => by
   rw [put_kn (by omega), if_neg fun hg => (may_called (gO_may q hg)).2 hc]
  have hsc : ∀ {m : List Int} {E : List Nat}, m.length = G.n -> E ∈ allCh (free G (put m (gO G j' m) (j' + 1))) [] -> ∀ q ∈ E, q < G.n /\ into G.C q = none /\ kn m q = 0 := fun hl hE q hqs => by
   obtain ⟨g1, g2, g3⟩ := free_mem.1 ((mem_allCh.1 hE).1.subset hqs)
   exact ⟨g1, g2, by rw [<- hgn hl g1 g2]; exact g3⟩
  have hdn : ∀ {m : List Int} {E : List Nat} {q : Nat}, m.length = G.n -> q < G.n -> into G.C q = none -> kn (put (put m (gO G j' m) (j' + 1)) E (j' + 1)) q = kn (put m E (j' + 1)) q := fun {m E q} hl hqn hc => by
   rw [put_kn (by rw [put_len]; omega), hgn hl hqn hc, put_kn (by omega)]
  obtain ⟨h1, h2⟩ := step_same (c := fun q => into G.C q = none) hlen hlen' (leO hr) (leO hr') (hsc hlen hE) (hsc hlen' hE') fun q hqn hc => by
   have := hq q hqn hc
   rw [hdn hlen hqn hc, hdn hlen' hqn hc] at this
   exact this
  have em : m = m' := uniO j' hr hr' h2
  subst em
  rw [put_congr h1]
end R24
end Go.Proofs
