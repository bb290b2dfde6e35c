/- Games on networks: Spoils walked. -/
import Derived.Test.YtcodoembnjemkaaGreatSgSp
set_option maxRecDepth 100000
set_option maxHeartbeats 400000000
set_option linter.unusedSectionVars false
set_option linter.unusedVariables false
set_option linter.unusedSimpArgs false
namespace Go.Proofs
open Go.RowKit Go.Kin Go.Kin.St Go.Kin.Ct Go.Kin.Sg
namespace R24
noncomputable def spG (G : Gm) (rows : List DW) : Bool := @decide (Sp G (tabW rows) (G.T + 1) 0 (List.replicate G.n 0)) (Classical.propDecidable _)
noncomputable def spoilsV (n : Int) (L C : List Lk) (T : Int) (rows : List DW) : Value := if rdC n L C T rows ≠ 0 then .tuple ⟨[.bool false, .int .i64 (rdC n L C T rows)]⟩ else .tuple ⟨[.bool (spG ⟨n.toNat, T.toNat, L, C⟩ rows), .int .i64 0]⟩
theorem Spoils_calls (u : R23.Un) (T : Int) (S : Option Addr) (cs : Nat) (rows : List DW) (w : World) (hA : u.In w) (hl : u.L.length <= 1000) (hc : u.C.length <= 1000) (hS : StrIn w S rows) (hrl : rows.length <= 10000000) (hdl : ∀ r ∈ rows, r.l.length <= 1000 /\ r.d.length <= 1000) :
  Calls Tryz.prog 10 ⟨[.agg ⟨u.v⟩, .int .i64 T, .slice S rows.length cs]⟩ w fun e w' => e = .returned (spoilsV u.n u.L u.C T rows) /\ Below w.heap.size w w' := by
 have hrd : ∀ (mem : List (Nat × Obj)) (W : World), SatW w (base w) noJ mem W -> Calls Tryz.prog 21 ⟨[.agg ⟨u.v⟩, .int .i64 T, .slice S rows.length cs]⟩ W (RdQ u.n u.L u.C T rows W) := fun mem W hW => read_calls u T S cs rows W (hA.sat hW) hl hc (hS.later hW.below) hrl hdl
 have hAl := hA.l
 have hAc := hA.c
 obtain ⟨n, A, ca, L, B, cb, C⟩ := u
 simp only [R23.Un.v] at hl hc hrd ⊢
 simp only at hAl hAc
 refine fEn Tryz.func10 rfl Tryz.ntmps10 rfl rfl (sWn w) ?_
 by_cases h0 : rdC n L C T rows = 0
 rotate_left
 ·have hv : spoilsV n L C T rows = .tuple ⟨[.bool false, .int .i64 (rdC n L C T rows)]⟩ := if_pos h0
  rw [hv]
  repeat (first|refine lVa rfl rfl (by first|exact pEv rfl|exact vLd rfl (by repeat constructor) rfl (by rfl)|fail) ?_|refine lNi ?_|refine cRg ?_|refine cSq ?_|refine xTh ?_|refine r_box rfl rfl rfl rfl (fun _ => ?_)|fail)
  refine r_call (v := .tuple ⟨[.map none, .int .i64 (rdC n L C T rows)]⟩) rfl rfl rfl (fun W hW => (hrd _ W hW).mono ?_) ?_
  ·rintro e w' ⟨h1, h2⟩
   rcases h2 with ⟨_, h3⟩ | ⟨h3, _⟩
   ·exact ⟨h3, h1⟩
   ·exact absurd h3 h0
  repeat (first|refine lVa rfl rfl (by first|exact pEv rfl|fail) ?_|refine lNi ?_|refine cRg ?_|refine cSq ?_|refine xTh ?_|refine r_alloc rfl rfl rfl (by first|exact aggL|fail) (fun _ => ?_)|refine rSt rfl rfl rfl rfl rfl rfl rfl (by repeat constructor) (by rfl) ?_|refine c_dec_t rfl (by first|omega|fail) ?_|refine c_ret ?_|refine xTr ?_|fail)
  exact x_ret rfl rfl (by repeat constructor) rfl (fun W hW => ⟨rfl, hW.below⟩)
 obtain ⟨hck, hok⟩ := rdC_ok h0
 have hv : spoilsV n L C T rows = .tuple ⟨[.bool (spG ⟨n.toNat, T.toNat, L, C⟩ rows), .int .i64 0]⟩ := if_neg (fun h => h h0)
 obtain ⟨c0, t1, t2, t3, t4, t5⟩ := chkS_ok hck
 obtain ⟨n1, n2⟩ := R23.chkU_ok c0
 obtain ⟨t, rfl⟩ : ∃ t : Nat, T = t := ⟨T.toNat, by omega⟩
 obtain ⟨N, rfl⟩ : ∃ N : Nat, n = N := ⟨n.toNat, by omega⟩
 rw [Int.toNat_natCast, Int.toNat_natCast] at hok hv
 rw [hv]
 obtain ⟨hn0, hCC⟩ := (tree_gok (A := A) (B := B) (ca := ca) (cb := cb) (m := 0) hck).2
 have hn6 : N <= 6 := (tree_gok (A := A) (B := B) (ca := ca) (cb := cb) (m := 0) hck).1.n
 repeat (first|refine lVa rfl rfl (by first|exact pEv rfl|exact vLd rfl (by repeat constructor) rfl (by rfl)|fail) ?_|refine lNi ?_|refine cRg ?_|refine cSq ?_|refine xTh ?_|refine r_box rfl rfl rfl rfl (fun _ => ?_)|fail)
 refine r_call1 (ι := Nat) (v := fun b => .tuple ⟨[.map (some b), .int .i64 0]⟩) (bk := fun b => b) (o := fun _ => pkO (kvR rows)) rfl rfl rfl (fun W hW => (hrd _ W hW).mono ?_) (fun bm => ?_)
 ·rintro e w' ⟨h1, h2⟩
  rcases h2 with ⟨h3, _⟩ | ⟨_, b, h3, h4, h5⟩
  ·exact absurd h0 h3
  ·exact ⟨b, h3, h1, h4, h5⟩
 repeat (first|refine r_alloc rfl rfl rfl rfl (fun _ => ?_)|refine lVa rfl rfl (by first|exact pEv rfl|exact vLd rfl (by repeat constructor) rfl (by rfl)|fail) ?_|refine lNi ?_|refine cRg ?_|refine cSq ?_|refine xTh ?_|refine rSt rfl rfl rfl rfl rfl rfl rfl (by repeat constructor) (by rfl) ?_|refine c_false rfl ?_|refine cSk ?_|fail)
 refine r_call2 (ι := Nat × Nat) (v := fun i => .pointer (some ⟨i.1, 0, none⟩)) (bk := fun i => i.1) (bk2 := fun i => i.2) (o := fun i => .cells ⟨(GB.mk N t L C A B ca cb i.2).cells⟩ 80 (0, 0)) (o2 := fun _ => .map ⟨[]⟩ 0) rfl rfl rfl (fun W hW => (open_calls N t A B ca cb L C W hn6 hCC hc (hAc.sat hW)).mono ?_) ?_
 ·rintro e w' ⟨a, m, e1, e2, e3, e4, e5, e6, e7⟩
  exact ⟨(a, m), e1, e2, e4, e6, e5, e7, fun h => e3 h.symm⟩
 rintro ⟨a, m⟩
 simp only
 obtain ⟨b, hb⟩ : ∃ b : GB, b = ⟨N, t, L, C, A, B, ca, cb, m⟩ := ⟨_, rfl⟩
 have hG : GOK b := by rw [hb]; exact (tree_gok hck).1
 have hbT : b.T = t := by rw [hb]
 have hbn : b.n = N := by rw [hb]
 rw [<- hb]
 repeat (first|refine r_alloc rfl rfl rfl rfl (fun _ => ?_)|refine lVa rfl rfl (by first|exact pEv rfl|exact vLd rfl (by repeat constructor) rfl (by rfl)|exact v_build rfl rfl (by rfl)|fail) ?_|refine lNi ?_|refine cRg ?_|refine cSq ?_|refine xTh ?_|refine rSt rfl rfl rfl rfl rfl rfl rfl (by repeat constructor) (by rfl) ?_|fail)
 rename_i b3 bT bM bG bF
 have hsp : spB b rows (b.T + 1) 0 (List.replicate b.n 0) = spG ⟨N, t, L, C⟩ rows := by rw [hb]; rfl
 refine r_callv (v := .bool (spG ⟨N, t, L, C⟩ rows)) rfl rfl rfl rfl rfl (fun W hW => ?_) ?_
 ·have h := spoils52_calls b a bT bG bM bF bm rows hG (by rw [hbn, hbT]; exact hok) (b.T + 1) 0 (by omega) (List.replicate b.n 0) W (rep_pos b).1
   ⟨⟨fun j v hj => by rw [hW.cellAt (b := a) (l := b.cells) (T := 80) (fr := (0, 0)) (by repeat constructor)]; exact hj, by rw [hb]; exact hAl.sat hW, by rw [hb]; exact hAc.sat hW⟩,
    by rw [hbT]; exact hW.cellAt (b := bT) (l := [.int .i64 t]) (T := 3) (fr := (0, 0)) (by repeat constructor) 0, hW.cellAt (b := bG) (l := [.pointer (some ⟨a, 0, none⟩)]) (T := 49) (fr := (0, 0)) (by repeat constructor) 0, hW.cellAt (b := bM) (l := [.map (some bm)]) (T := 46) (fr := (0, 0)) (by repeat constructor) 0,
    hW.cellAt (b := bF) (l := [.func (.func 31) ⟨[]⟩ ⟨capsW bT bG bM bF⟩]) (T := 51) (fr := (0, 0)) (by repeat constructor) 0, (hW.own (bm, pkO (kvR rows)) (by repeat constructor)).2, fun r hr => (hS.d r hr).sat hW⟩
  rw [hsp, show plC ((0 : Nat) : Int) (kn (List.replicate b.n 0)) = plC 0 (fun _ => 0) from plE_zero] at h
  exact h
 repeat (first|refine lVa rfl rfl (by first|exact pEv rfl|fail) ?_|refine lNi ?_|refine xTh ?_|refine c_ret ?_|fail)
 exact x_ret rfl rfl (by repeat constructor) rfl (fun W hW => ⟨rfl, hW.below⟩)
end R24
end Go.Proofs
