/- Uncertain networks: Strong and Refute, as the program has them. -/
import Derived.Test.YtcodoembnjemkaaCtS
import Derived.Test.YtcodoembnjemkaaSgA
import Derived.Test.YtcodoembnjemkaaSgL7
set_option maxRecDepth 100000
set_option maxHeartbeats 400000000
set_option linter.unusedSectionVars false
set_option linter.unusedVariables false
set_option linter.unusedSimpArgs false
namespace Go.Proofs
open Go.RowKit Go.Kin Go.Kin.St Go.Kin.Ct
open R22
namespace R23
/-- solve, of what is checked -/
theorem solve_calls' (u : Un) (N : Nat) (w : World) (hn : u.n = N) (hA : u.In w) (h0 : chkU u.n u.L u.C = 0) (hl : u.L.length <= 30) (hc : u.C.length <= 30) :
  Calls Try.prog 58 ⟨[.agg ⟨u.v⟩, .agg ⟨theTree u.C N⟩]⟩ w (SolQ N u.C u.L w) := by
 obtain ⟨n1, n2, l1, l2, hF, hT⟩ := chkU_ok h0
 rw [hn] at n1 n2 hF hT
 rw [Int.toNat_natCast] at hT
 exact solve_calls u N w hn (by omega) (by omega) hA hc hl hT hF
theorem acc_str {n : Int} {L C : List Lk} {us : List Us} (h : us ≠ []) (ha : accepts (net C n.toNat L) us = true) : str n L C = none := str_no fun s => accepts_none h ha s
theorem sol_some {N : Nat} {L C : List Lk} {t : Nat -> Int} {w w' : World} {e : Ending} (h : str N L C = some t) (hq : SolQ N C L w e w') : ∃ b : Nat, e = .returned (.tuple ⟨[.slice (some ⟨b, 0, none⟩) N N, .slice none 0 0]⟩) /\ Below w.heap.size w w' /\ w.heap.size <= b /\ w'.heap[b]? = some (.cells ⟨ivec N t⟩ 3 (0, 0)) := by
 obtain ⟨h0, hL⟩ := str_least h
 rw [Int.toNat_natCast] at hL
 rcases hq with ⟨s, b, g1, g2, g3, g4, g5⟩ | ⟨us, b, cap, rest, g1, g2, g3, -⟩
 ·rw [ivec_congr (g1.uniq hL)] at g5
  exact ⟨b, g2, g3, g4, g5⟩
 ·have := acc_str (n := N) g1 (by rw [Int.toNat_natCast]; exact g3)
  rw [h] at this; cases this
theorem sol_none {N : Nat} {L C : List Lk} {w w' : World} {e : Ending} (h0 : chkU N L C = 0) (h : str N L C = none) (hq : SolQ N C L w e w') : ∃ p : {p : List Us × Nat × Nat × List Value // p.1 ≠ [] /\ p.1.length <= 64 /\ accepts (net C N L) p.1 = true}, e = .returned (.tuple ⟨[.slice none 0 0, .slice (some ⟨p.1.2.1, 0, none⟩) p.1.1.length p.1.2.2.1]⟩) /\ Below w.heap.size w w' /\ w.heap.size <= p.1.2.1 /\
  w'.heap[p.1.2.1]? = some (.cells ⟨flat p.1.1.length (fun j => usE (p.1.1.getD j ⟨0, false⟩)) ++ p.1.2.2.2⟩ 103 (0, 0)) := by
 rcases hq with ⟨s, b, g1, -⟩ | ⟨us, b, cap, rest, g1, g2, g3, g4, g5, g6, g7⟩
 ·exact absurd g1.sol (by have := str_none h h0 s; rw [Int.toNat_natCast] at this; exact this)
 ·exact ⟨⟨(us, b, cap, rest), g1, g2, g3⟩, g4, g5, g6, g7⟩
theorem Strong_calls (u : Un) (w : World) (hA : u.In w) (hl : u.L.length <= 1000) (hf : chkU u.n u.L u.C = 0 -> u.L.length <= 30 /\ u.C.length <= 30) :
  Calls Try.prog 22 ⟨[.agg ⟨u.v⟩]⟩ w (StrQ u.n u.L u.C w) := by
 have hck : ∀ (mem : List (Nat × Obj)) (W : World), SatW w (base w) noJ mem W -> Calls Try.prog 55 ⟨[.agg ⟨u.v⟩]⟩ W (ChkQ u.n u.L u.C W) := fun mem W hW => check_calls' u W (hA.sat hW) hl
 have hsv : ∀ (N : Nat) (mem : List (Nat × Obj)) (W : World), u.n = N -> chkU u.n u.L u.C = 0 -> SatW w (base w) noJ mem W -> Calls Try.prog 58 ⟨[.agg ⟨u.v⟩, .agg ⟨theTree u.C N⟩]⟩ W (SolQ N u.C u.L W) := fun N mem W h1 h2 hW => solve_calls' u N W h1 (hA.sat hW) h2 (hf h2).1 (hf h2).2
 obtain ⟨n, A, cap, L, B, cab, C⟩ := u
 simp only [Un.v] at hl hck hsv hf ⊢
 refine fEn Try.func22 rfl Try.ntmps22 rfl rfl (sWn w) ?_
 by_cases h0 : chkU n L C = 0
 rotate_left
 ·repeat (first|refine lVa rfl rfl (by first|exact pEv rfl|exact vLd rfl (by repeat constructor) rfl (by rfl)|fail) ?_|refine lNi ?_|refine cRg ?_|refine cSq ?_|refine xTh ?_|refine r_box rfl rfl rfl rfl (fun _ => ?_)|fail)
  refine r_callI (ι := (Nat -> Int) × (Nat -> Int) × (Nat -> Nat)) (v := fun i => .tuple ⟨[.agg ⟨treeL i.1 i.2.1 i.2.2⟩, .int .i64 (chkU n L C)]⟩) rfl rfl rfl (fun W hW => (hck _ W hW).mono fun e W' ⟨g1, g2⟩ => ?_) ?_
  ·rcases g2 with ⟨g2, g3⟩ | ⟨_, f, g, h, g2⟩
   ·exact absurd g2 h0
   ·exact ⟨(f, g, h), g2, g1⟩
  rintro ⟨f, g, h⟩
  simp only
  repeat (first|refine r_alloc rfl rfl rfl (treeZ rfl) (fun b2 => ?_)|refine rSt (vs := treeL _ _ _) rfl rfl rfl rfl rfl treeL_beq treeL_one (by repeat constructor) (putK_all (treeL_len.trans treeL_len.symm)) ?_|refine lVa rfl rfl (by first|exact pEv rfl|fail) ?_|refine lNi ?_|refine cRg ?_|refine cSq ?_|refine xTh ?_|refine c_dec_t rfl (by first|omega|fail) ?_|refine c_ret ?_|refine xTr ?_|fail)
  exact x_ret rfl rfl (by repeat constructor) rfl (fun W hW => .inl ⟨str_bad h0, rfl, hW.below⟩)
 obtain ⟨n1, n2, -, -, -, -⟩ := chkU_ok h0
 obtain ⟨N, rfl⟩ : ∃ N : Nat, n = N := ⟨n.toNat, by omega⟩
 repeat (first|refine lVa rfl rfl (by first|exact pEv rfl|exact vLd rfl (by repeat constructor) rfl (by rfl)|fail) ?_|refine lNi ?_|refine cRg ?_|refine cSq ?_|refine xTh ?_|refine r_box rfl rfl rfl rfl (fun _ => ?_)|fail)
 refine r_call (v := .tuple ⟨[.agg ⟨theTree C N⟩, .int .i64 0]⟩) rfl rfl rfl (fun W hW => (hck _ W hW).mono fun e W' ⟨g1, g2⟩ => ?_) ?_
 ·rcases g2 with ⟨_, g3⟩ | ⟨g2, _⟩
  ·rw [Int.toNat_natCast] at g3
   exact ⟨g3, g1⟩
  ·exact absurd h0 g2
 unfold theTree
 repeat (first|refine r_alloc rfl rfl rfl (treeZ rfl) (fun b2 => ?_)|refine rSt (vs := treeL _ _ _) rfl rfl rfl rfl rfl treeL_beq treeL_one (by repeat constructor) (putK_all (treeL_len.trans treeL_len.symm)) ?_|refine lVa rfl rfl (v_loadW rfl (by repeat constructor) rfl rfl treeL_len) ?_|refine lVa rfl rfl (by first|exact pEv rfl|exact vLd rfl (by repeat constructor) rfl (by rfl)|fail) ?_|refine lNi ?_|refine cRg ?_|refine cSq ?_|refine xTh ?_|refine c_false rfl ?_|refine cSk ?_|fail)
 cases hst : str N L C with
 | some t =>
  refine r_call1 (ι := Nat) (v := fun b => .tuple ⟨[.slice (some ⟨b, 0, none⟩) N N, .slice none 0 0]⟩) (bk := fun b => b) (o := fun b => .cells ⟨ivec N t⟩ 3 (0, 0)) rfl rfl rfl (fun W hW => (hsv N _ W rfl h0 hW).mono fun e W' hq => sol_some hst hq) (fun b => ?_)
  repeat (first|refine lVa rfl rfl (v_neNilS0 rfl rfl) ?_|refine lVa rfl rfl (by first|exact pEv rfl|fail) ?_|refine lNi ?_|refine cRg ?_|refine cSq ?_|refine xTh ?_|refine c_false rfl ?_|refine cSk ?_|refine c_ret ?_|fail)
  exact x_ret rfl rfl (by repeat constructor) rfl (fun W hW => .inr ⟨t, b, hst, rfl, hW.below, Nat.le_of_not_lt (hW.own (b, _) (by repeat constructor)).1, (hW.own (b, _) (by repeat constructor)).2⟩)
 | none =>
  refine r_call1 (ι := {p : List Us × Nat × Nat × List Value // p.1 ≠ [] /\ p.1.length <= 64 /\ accepts (net C N L) p.1 = true}) (v := fun p => .tuple ⟨[.slice none 0 0, .slice (some ⟨p.1.2.1, 0, none⟩) p.1.1.length p.1.2.2.1]⟩) (bk := fun p => p.1.2.1) (o := fun p => .cells ⟨flat p.1.1.length (fun j => usE (p.1.1.getD j ⟨0, false⟩)) ++ p.1.2.2.2⟩ 103 (0, 0)) rfl rfl rfl (fun W hW => (hsv N _ W rfl h0 hW).mono fun e W' hq => sol_none h0 hst hq) ?_
  rintro ⟨⟨us, b, cap, rest⟩, hne, hlu, hac⟩
  simp only at hne hlu hac ⊢
  repeat (first|refine lVa rfl rfl (v_neNilS rfl rfl) ?_|refine lVa rfl rfl (by first|exact pEv rfl|fail) ?_|refine lNi ?_|refine cRg ?_|refine cSq ?_|refine xTh ?_|refine c_true rfl ?_|refine c_ret ?_|refine xTr ?_|fail)
  exact x_ret rfl rfl (by repeat constructor) rfl (fun W hW => .inl ⟨hst, by rw [h0]; rfl, hW.below⟩)

end R23
end Go.Proofs

namespace Go.Proofs
open Go.RowKit Go.Kin Go.Kin.St Go.Kin.Ct Go.Kin.Sg
namespace R24
theorem law7 (u : R23.Un) (T : Int) (w : World) (hA : u.In w) : Calls Try.prog 7 ⟨[.agg ⟨u.v⟩, .int .i64 T]⟩ w fun e w' => e = .returned (.bool true) /\ Below w.heap.size w w' :=
 law7_of (fun u w hA hl hf => R23.Strong_calls u w hA hl hf) u T w hA
end R24
end Go.Proofs
