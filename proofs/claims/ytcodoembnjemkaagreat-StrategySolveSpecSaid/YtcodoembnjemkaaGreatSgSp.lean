/- Games on networks: Wins walked. -/
import Derived.Test.YtcodoembnjemkaaGreatSgWo
import Derived.Test.YtcodoembnjemkaaGreatSgQb
set_option maxRecDepth 100000
set_option maxHeartbeats 400000000
set_option linter.unusedSectionVars false
set_option linter.unusedVariables false
set_option linter.unusedSimpArgs false
namespace Go.Proofs
open Go.RowKit Go.Kin Go.Kin.St Go.Kin.Ct Go.Kin.Sg
namespace R24
noncomputable def wnG (G : Gm) (rows : List DW) : Bool := @decide (Wn G (tabW rows) (G.T + 1) 0 (List.replicate G.n 0)) (Classical.propDecidable _)
noncomputable def winsV (n : Int) (L C : List Lk) (T : Int) (rows : List DW) : Value := if rdC n L C T rows ≠ 0 then .tuple ⟨[.bool false, .int .i64 (rdC n L C T rows)]⟩ else .tuple ⟨[.bool (wnG ⟨n.toNat, T.toNat, L, C⟩ rows), .int .i64 0]⟩
theorem rdC_ok {n T : Int} {L C : List Lk} {rows : List DW} (h : rdC n L C T rows = 0) : chkS n L C T = 0 /\ okS n.toNat T.toNat rows := by
 by_cases h0 : chkS n L C T = 0
 ·by_cases h2 : 4096 < rows.length
  ·rw [rdC_2 h0 h2] at h; cases h
  ·by_cases h3 : okS n.toNat T.toNat rows
   ·exact ⟨h0, h3⟩
   ·rw [rdC_no h0 h2 h3] at h; cases h
 ·rw [rdC_a h0] at h; exact absurd h h0
theorem Wins_calls (u : R23.Un) (T : Int) (S : Option Addr) (cs : Nat) (rows : List DW) (w : World) (hA : u.In w) (hl : u.L.length <= 1000) (hc : u.C.length <= 1000) (hS : StrIn w S rows) (hrl : rows.length <= 10000000) (hdl : ∀ r ∈ rows, r.l.length <= 1000 /\ r.d.length <= 1000) :
  Calls Tryz.prog 8 ⟨[.agg ⟨u.v⟩, .int .i64 T, .slice S rows.length cs]⟩ w fun e w' => e = .returned (winsV u.n u.L u.C T rows) /\ Below w.heap.size w w' := by
 have hrd : ∀ (mem : List (Nat × Obj)) (W : World), SatW w (base w) noJ mem W -> Calls Tryz.prog 21 ⟨[.agg ⟨u.v⟩, .int .i64 T, .slice S rows.length cs]⟩ W (RdQ u.n u.L u.C T rows W) := fun mem W hW => read_calls u T S cs rows W (hA.sat hW) hl hc (hS.later hW.below) hrl hdl
 have hAl := hA.l
 have hAc := hA.c
 obtain ⟨n, A, ca, L, B, cb, C⟩ := u
 simp only [R23.Un.v] at hl hc hrd ⊢
 simp only at hAl hAc
 refine fEn Tryz.func8 rfl Tryz.ntmps8 rfl rfl (sWn w) ?_
 by_cases h0 : rdC n L C T rows = 0
 rotate_left
 ·have hv : winsV n L C T rows = .tuple ⟨[.bool false, .int .i64 (rdC n L C T rows)]⟩ := if_pos h0
  rw [hv]
  repeat (first|refine lVa rfl rfl (by first|exact pEv rfl|exact vLd rfl (by repeat constructor) rfl (by rfl)|fail) ?_|refine lNi ?_|refine cRg ?_|refine cSq ?_|refine xTh ?_|refine r_box rfl rfl rfl rfl (fun _ => ?_)|fail)
  refine r_call (v := .tuple ⟨[.map none, .int .i64 (rdC n L C T rows)]⟩) rfl rfl rfl (fun W hW => (hrd _ W hW).mono ?_) ?_
  ·rintro e w' ⟨h1, h2⟩
   rcases h2 with ⟨_, h3⟩ | ⟨h3, _⟩
   ·exact ⟨h3, h1⟩
   ·exact absurd h3 h0
  repeat (first|refine lVa rfl rfl (by first|exact pEv rfl|fail) ?_|refine lNi ?_|refine cRg ?_|refine cSq ?_|refine xTh ?_|refine r_alloc rfl rfl rfl (by first|exact aggL|fail) (fun _ => ?_)|refine rSt rfl rfl rfl rfl rfl rfl rfl (by repeat constructor) (by rfl) ?_|refine c_dec_t rfl (by first|omega|fail) ?_|refine c_ret ?_|refine xTr ?_|fail)
  exact x_ret rfl rfl (by repeat constructor) rfl (fun W hW => ⟨rfl, hW.below⟩)
 obtain ⟨hck, hok⟩ := rdC_ok h0
 have hv : winsV n L C T rows = .tuple ⟨[.bool (wnG ⟨n.toNat, T.toNat, L, C⟩ rows), .int .i64 0]⟩ := if_neg (fun h => h h0)
 obtain ⟨c0, t1, t2, t3, t4, t5⟩ := chkS_ok hck
 obtain ⟨n1, n2⟩ := R23.chkU_ok c0
 obtain ⟨t, rfl⟩ : ∃ t : Nat, T = t := ⟨T.toNat, by omega⟩
 obtain ⟨N, rfl⟩ : ∃ N : Nat, n = N := ⟨n.toNat, by omega⟩
 rw [Int.toNat_natCast, Int.toNat_natCast] at hok hv
 rw [hv]
 obtain ⟨hn0, hCC⟩ := (tree_gok (A := A) (B := B) (ca := ca) (cb := cb) (m := 0) hck).2
 have hn6 : N <= 6 := (tree_gok (A := A) (B := B) (ca := ca) (cb := cb) (m := 0) hck).1.n
 repeat (first|refine lVa rfl rfl (by first|exact pEv rfl|exact vLd rfl (by repeat constructor) rfl (by rfl)|fail) ?_|refine lNi ?_|refine cRg ?_|refine cSq ?_|refine xTh ?_|refine r_box rfl rfl rfl rfl (fun _ => ?_)|fail)
 refine r_call1 (ι := Nat) (v := fun b => .tuple ⟨[.map (some b), .int .i64 0]⟩) (bk := fun b => b) (o := fun _ => pkO (kvR rows)) rfl rfl rfl (fun W hW => (hrd _ W hW).mono ?_) (fun bm => ?_)
 ·rintro e w' ⟨h1, h2⟩
  rcases h2 with ⟨h3, _⟩ | ⟨_, b, h3, h4, h5⟩
  ·exact absurd h0 h3
  ·exact ⟨b, h3, h1, h4, h5⟩
 repeat (first|refine r_alloc rfl rfl rfl rfl (fun _ => ?_)|refine lVa rfl rfl (by first|exact pEv rfl|exact vLd rfl (by repeat constructor) rfl (by rfl)|fail) ?_|refine lNi ?_|refine cRg ?_|refine cSq ?_|refine xTh ?_|refine rSt rfl rfl rfl rfl rfl rfl rfl (by repeat constructor) (by rfl) ?_|refine c_false rfl ?_|refine cSk ?_|fail)
 refine r_call2 (ι := Nat × Nat) (v := fun i => .pointer (some ⟨i.1, 0, none⟩)) (bk := fun i => i.1) (bk2 := fun i => i.2) (o := fun i => .cells ⟨(GB.mk N t L C A B ca cb i.2).cells⟩ 80 (0, 0)) (o2 := fun _ => .map ⟨[]⟩ 0) rfl rfl rfl (fun W hW => (open_calls N t A B ca cb L C W hn6 hCC hc (hAc.sat hW)).mono ?_) ?_
 ·rintro e w' ⟨a, m, e1, e2, e3, e4, e5, e6, e7⟩
  exact ⟨(a, m), e1, e2, e4, e6, e5, e7, fun h => e3 h.symm⟩
 rintro ⟨a, m⟩
 simp only
 obtain ⟨b, hb⟩ : ∃ b : GB, b = ⟨N, t, L, C, A, B, ca, cb, m⟩ := ⟨_, rfl⟩
 have hG : GOK b := by rw [hb]; exact (tree_gok hck).1
 have hbT : b.T = t := by rw [hb]
 have hbn : b.n = N := by rw [hb]
 rw [<- hb]
 repeat (first|refine r_alloc rfl rfl rfl rfl (fun _ => ?_)|refine lVa rfl rfl (by first|exact pEv rfl|exact vLd rfl (by repeat constructor) rfl (by rfl)|exact v_build rfl rfl (by rfl)|fail) ?_|refine lNi ?_|refine cRg ?_|refine cSq ?_|refine xTh ?_|refine rSt rfl rfl rfl rfl rfl rfl rfl (by repeat constructor) (by rfl) ?_|fail)
 rename_i b3 bT bM bG bF
 have hwn : wnB b rows (b.T + 1) 0 (List.replicate b.n 0) = wnG ⟨N, t, L, C⟩ rows := by rw [hb]; rfl
 refine r_callv (v := .bool (wnG ⟨N, t, L, C⟩ rows)) rfl rfl rfl rfl rfl (fun W hW => ?_) ?_
 ·have h := wins49_calls b a bT bG bM bF bm rows hG (by rw [hbn, hbT]; exact hok) (b.T + 1) 0 (by omega) (List.replicate b.n 0) W (rep_pos b).1
   ⟨⟨fun j v hj => by rw [hW.cellAt (b := a) (l := b.cells) (T := 80) (fr := (0, 0)) (by repeat constructor)]; exact hj, by rw [hb]; exact hAl.sat hW, by rw [hb]; exact hAc.sat hW⟩,
    by rw [hbT]; exact hW.cellAt (b := bT) (l := [.int .i64 t]) (T := 3) (fr := (0, 0)) (by repeat constructor) 0, hW.cellAt (b := bG) (l := [.pointer (some ⟨a, 0, none⟩)]) (T := 49) (fr := (0, 0)) (by repeat constructor) 0, hW.cellAt (b := bM) (l := [.map (some bm)]) (T := 46) (fr := (0, 0)) (by repeat constructor) 0,
    hW.cellAt (b := bF) (l := [.func (.func 23) ⟨[]⟩ ⟨capsW bT bG bM bF⟩]) (T := 51) (fr := (0, 0)) (by repeat constructor) 0, (hW.own (bm, pkO (kvR rows)) (by repeat constructor)).2, fun r hr => (hS.d r hr).sat hW⟩
  rw [hwn, show plC ((0 : Nat) : Int) (kn (List.replicate b.n 0)) = plC 0 (fun _ => 0) from plE_zero] at h
  exact h
 repeat (first|refine lVa rfl rfl (by first|exact pEv rfl|fail) ?_|refine lNi ?_|refine xTh ?_|refine c_ret ?_|fail)
 exact x_ret rfl rfl (by repeat constructor) rfl (fun W hW => ⟨rfl, hW.below⟩)
end R24
end Go.Proofs

set_option maxRecDepth 100000
set_option maxHeartbeats 400000000
namespace Go.Proofs
open Go.RowKit Go.Kin Go.Kin.St Go.Kin.Ct Go.Kin.Sg
namespace R24
noncomputable def spB (b : GB) (rows : List DW) (f k : Nat) (l : List Int) : Bool := @decide (Sp b.g (tabW rows) f k l) (Classical.propDecidable _)
theorem spB_iff {b : GB} {rows : List DW} {f k : Nat} {l : List Int} : spB b rows f k l = true ↔ Sp b.g (tabW rows) f k l := @decide_eq_true_iff _ (Classical.propDecidable _)
theorem spoils52_end (b : GB) (a bT bG bM bF bm : Nat) (rows : List DW) (hb : GOK b) (k : Nat) (hk : k = b.T + 1) (l : List Int) (w : World) (hl : PosN b l) (he : WEnv b a bT bG bM bF bm 31 rows w) :
  Calls Tryz.prog 31 ⟨[] ++ [.agg ⟨plC k (kn l)⟩] ++ capsW bT bG bM bF⟩ w fun e w' => e = .returned (.bool (spB b rows 0 k l)) /\ Below w.heap.size w w' := by
 have hT := hb.T
 have eT := ext1 he.cT
 have eG := ext1 he.cG
 have hkp : spB b rows 0 k l = !kpB b.g l := by
  unfold spB kpB
  exact @decide_not _ (Classical.propDecidable _) (Classical.propDecidable _)
 rw [hkp]
 refine fEn Tryz.func31 rfl Tryz.ntmps31 rfl rfl (sWn w) ?_
 repeat (first|refine lVa rfl rfl (by first|exact pEv rfl|exact vLd rfl (by repeat constructor) rfl (by rfl)|exact vL0 rfl (by assumption) rfl (by rfl)|fail) ?_|refine lNi ?_|refine cRg ?_|refine cSq ?_|refine xTh ?_|refine r_box rfl rfl rfl rfl (fun _ => ?_)|refine r_alloc rfl rfl rfl (by first|exact aggL|fail) (fun _ => ?_)|refine c_dec_t rfl (by first|omega|fail) ?_|fail)
 refine r_call rfl rfl rfl (fun W hW => kept_calls b a k l W hb.n hl.1 (fun x hx => by have := hl.2 x hx; omega) hb.l hb.ck (he.later hW.below).g) ?_
 repeat (first|refine lVa rfl rfl (by first|exact pEv rfl|fail) ?_|refine lNi ?_|refine xTh ?_|refine rSt rfl rfl rfl rfl rfl rfl rfl (by repeat constructor) (by rfl) ?_|refine c_ret ?_|refine xTr ?_|fail)
 exact x_ret rfl rfl (by repeat constructor) rfl (fun W hW => ⟨rfl, hW.below⟩)
theorem permS {β : Type} {X G : List β} {q y z : β} : ((X ++ [q]) ++ (y :: z :: G)).Perm (X ++ (y :: q :: z :: G)) := perm_by [X, [q], [y], [z], G] [0, 1, 2, 3, 4] [0, 2, 1, 3, 4] rfl (by simp) (by simp)
structure M2 where
 b : Nat
 c : Nat
 r : List Value
 b' : Nat
 c' : Nat
 r' : List Value
theorem spoils52_step (b : GB) (a bT bG bM bF bm : Nat) (rows : List DW) (hb : GOK b) (hok : okS b.n b.T rows) (f k : Nat) (hkf : k + (f + 1) = b.T + 1)
  (ih : ∀ (l : List Int) (w : World), PosN b l -> WEnv b a bT bG bM bF bm 31 rows w -> Calls Tryz.prog 31 ⟨[] ++ [.agg ⟨plC (((k + 1 : Nat) : Int)) (kn l)⟩] ++ capsW bT bG bM bF⟩ w fun e w' => e = .returned (.bool (spB b rows f (k + 1) l)) /\ Below w.heap.size w w')
  (l : List Int) (w : World) (hl : PosN b l) (he : WEnv b a bT bG bM bF bm 31 rows w) :
  Calls Tryz.prog 31 ⟨[] ++ [.agg ⟨plC k (kn l)⟩] ++ capsW bT bG bM bF⟩ w fun e w' => e = .returned (.bool (spB b rows (f + 1) k l)) /\ Below w.heap.size w w' := by
 have hT := hb.T
 have hn := hb.n
 have hk : k <= b.T := by omega
 have eT := ext1 he.cT
 have eG := ext1 he.cG
 have eM := ext1 he.cM
 have eF := ext1 he.cF
 have hbm : bm < w.heap.size := (Array.getElem?_eq_some_iff.1 he.m).1
 have hml : (may b.g k l).length <= 6 := Nat.le_trans may_len hn
 have hdl : (Sg.due b.g k l).length <= 6 := Nat.le_trans due_len hn
 have hrl : ∀ r ∈ rows, r.l.length = b.n := fun r hr => by
  obtain ⟨j, hj, hrj⟩ := List.mem_iff_getElem.1 hr
  exact (hok j r (by rw [List.getElem?_eq_getElem hj, hrj])).l
 refine fEn Tryz.func31 rfl Tryz.ntmps31 rfl rfl (sWn w) ?_
 repeat ((fail_if_success refine c_probe (id := 3) ?_); (fail_if_success refine c_probe1 (id := 3) ?_); first|refine lVa rfl rfl (by first|exact pEv rfl|exact vLd rfl (by repeat constructor) rfl (by rfl)|exact vL0 rfl (by assumption) rfl (by rfl)|fail) ?_|refine lNi ?_|refine cRg ?_|refine cSq ?_|refine xTh ?_|refine r_box rfl rfl rfl rfl (fun _ => ?_)|refine r_alloc rfl rfl rfl (by first|exact aggL|fail) (fun _ => ?_)|refine c_dec_f rfl (by first|omega|exact fun h => h rfl|fail) ?_|refine cSk ?_|fail)
 rename_i b5 b6
 refine cSq ?_
 repeat (first|refine lVa rfl rfl (by first|exact vLd rfl (by repeat constructor) rfl (by rfl)|exact vL0 rfl (by assumption) rfl (by rfl)|fail) ?_|refine cRg ?_|fail)
 refine r_callL (ι := { i : M2 // gOK nE 1 (may b.g k l) i.c i.r /\ gOK nE 1 (Sg.due b.g k l) i.c' i.r' }) (v := fun i => .tuple ⟨[gSl (may b.g k l) i.1.b i.1.c, gSl (Sg.due b.g k l) i.1.b' i.1.c']⟩) (ms := fun i => gM nE 3 (may b.g k l) i.1.b i.1.r ++ gM nE 3 (Sg.due b.g k l) i.1.b' i.1.r') rfl rfl rfl (fun W hW => ?_) ?_
 ·have h := may_calls b a k (kn l) W hn (by omega) (fun q => by have := hl.kn q; omega) hb.r hb.c (he.later hW.below).g
  rw [may_flt, due_flt] at h
  refine h.mono ?_
  rintro e w' ⟨b1, c1, r1, b2, c2, r2, h1, h2, h3, h4, h5, h6⟩
  exact ⟨⟨⟨b1, c1, r1, b2, c2, r2⟩, h2, h3⟩, h1, h4, h6, h5⟩
 rintro ⟨⟨b1, c1, r1, b2, c2, r2⟩, hg1, hg2⟩
 simp only at hg1 hg2 ⊢
 repeat ((fail_if_success refine c_probe (id := 4) ?_); (fail_if_success refine c_probe1 (id := 4) ?_); first|refine lVa rfl rfl (by first|exact pEv rfl|fail) ?_|refine lNi ?_|refine xTh ?_|fail)
 refine c_perm List.perm_append_comm ?_
 simp only [List.cons_append, List.nil_append]
 obtain ⟨D, hD⟩ : ∃ D, doS b.g (tabW rows) k l = D := ⟨_, rfl⟩
 have hDi : D.Pairwise (· < ·) := by rw [<- hD]; exact doS_inc (tabW_inc hok) _ _
 have hlook : (match pkGet (kvR rows) k (kn l) with | some v => (match true with | true => Value.tuple ⟨[v, .bool true]⟩ | false => v) | none => (match true with | true => Value.tuple ⟨[.slice none 0 0, .bool false]⟩ | false => .slice none 0 0)) = .tuple ⟨[(match rowOf rows k l with | some r => .slice r.D r.d.length r.cd | none => .slice none 0 0), .bool (rowOf rows k l).isSome]⟩ := by
  rw [kvR_get hn hl.1 k hrl]
  cases rowOf rows k l <;> rfl
 have hDt : ∃ A cap, (match rowOf rows k l with | some r => Value.slice r.D r.d.length r.cd | none => gSl (Sg.due b.g k l) b2 c2) = .slice A D.length cap /\ (∀ x ∈ D, x < b.n) /\ ∀ {mem : List (Nat × Obj)} {W : World}, SatW w (base w) noJ mem W -> (∀ p ∈ gM nE 3 (Sg.due b.g k l) b2 r2, p ∈ mem) -> At W A 1 (D.map nE) := by
  unfold doS tabW at hD
  cases hr : rowOf rows k l with
  | none =>
   rw [hr] at hD
   have hD : Sg.due b.g k l = D := hD
   rw [hD]
   obtain ⟨A, c, hA⟩ := gSl_len (l := D) (b := b2) (cap := c2)
   refine ⟨A, c, hA, fun x hx => ?_, fun {mem W} hW hp => ?_⟩
   ·rw [<- hD] at hx
    exact may_lt' x (due_may hx)
   ·obtain ⟨A', c', hA', hat⟩ := gSl_at (cap := c2) hW hp
    rw [hA] at hA'
    cases hA'
    exact hat
  | some r =>
   rw [hr] at hD
   have hD : toN r.d = D := hD
   obtain ⟨hm, _, _⟩ := rowOf_some hr
   obtain ⟨i, hi, hri⟩ := List.mem_iff_getElem.1 hm
   have ho := (hok i r (by rw [List.getElem?_eq_getElem hi, hri])).o
   refine ⟨r.D, r.cd, ?_, fun x hx => ?_, fun {mem W} hW _ => ?_⟩
   ·rw [<- hD]; simp [toN]
   ·rw [<- hD] at hx
    simp only [toN] at hx
    obtain ⟨y, hy, rfl⟩ := List.mem_map.1 hx
    obtain ⟨j, hj, rfl⟩ := List.mem_iff_getElem.1 hy
    have := pv_inc ho (List.getElem?_eq_getElem hj)
    omega
   ·have h1 := (he.later hW.below).d r hm
    have e : (toN r.d).map nE = r.d.map inE := by
     conv => rhs; rw [<- toN_back ho]
     rw [List.map_map]; rfl
    rw [<- hD, e]; exact h1
 obtain ⟨A, cap, hDv, hDlt, hDat⟩ := hDt
 have hD6 : D.length <= 6 := by
  have := nodup_lt (m := b.n) (l := D) (hDi.imp fun h => Nat.ne_of_lt h) hDlt
  omega
 refine cSq ?_
 repeat ((fail_if_success refine c_probe (id := 5) ?_); (fail_if_success refine c_probe1 (id := 5) ?_); first|refine lVa rfl rfl (v_loadAll rfl (by repeat constructor) rfl rfl plC_len) ?_|refine lVa rfl rfl (v_pkGetX (k := k) (f := kn l) (s := kvR rows) rfl rfl rfl pk67 rfl he.m hbm hlook) ?_|refine lVa rfl rfl (by first|exact pEv rfl|exact vL0 rfl (by assumption) rfl (by rfl)|fail) ?_|refine lNi ?_|refine cRg ?_|refine xTh ?_|fail)
 refine cSq ?_
 refine c_share [(2, .pointer (some ⟨bG, 0, none⟩)), (4, .pointer (some ⟨bF, 0, none⟩)), (5, .pointer (some ⟨b5, 0, none⟩)), (6, .pointer (some ⟨b6, 0, none⟩)), (7, gSl (may b.g k l) b1 c1), (8, gSl (Sg.due b.g k l) b2 c2), (9, .slice A D.length cap)]
  ((b6, .cells ⟨[.bool false]⟩ 4 (0, 0)) :: (b5, .cells ⟨plC k (kn l)⟩ 54 (0, 0)) :: (gM nE 3 (may b.g k l) b1 r1 ++ gM nE 3 (Sg.due b.g k l) b2 r2)) ?_ (fun hsh => ?_)
 rotate_left
 ·rw [<- hDv] at hsh
  cases hr : rowOf rows k l with
  | none =>
   rw [hr] at hsh
   simp only [Option.isSome_none]
   repeat (first|exact hsh (by repeat (first|exact .nil|refine .cons rfl (by first|rfl|(congr 1; done)|exact congrArg _ (by omega)|(simp; done)) ?_)) (by repeat (first|exact .nil|refine .keep (by first|rfl|assumption) ?_|refine .drop ?_|exact MSub.refl _))|refine lVa rfl rfl (by first|exact pEv rfl|fail) ?_|refine lNi ?_|refine cRg ?_|refine cSq ?_|refine xTh ?_|refine c_true rfl ?_|fail)
  | some r =>
   rw [hr] at hsh
   simp only [Option.isSome_some]
   repeat (first|exact hsh (by repeat (first|exact .nil|refine .cons rfl (by first|rfl|(congr 1; done)|exact congrArg _ (by omega)|(simp; done)) ?_)) (by repeat (first|exact .nil|refine .keep (by first|rfl|assumption) ?_|refine .drop ?_|exact MSub.refl _))|refine lVa rfl rfl (by first|exact pEv rfl|fail) ?_|refine lNi ?_|refine cRg ?_|refine cSq ?_|refine xTh ?_|refine c_false rfl ?_|refine cSk ?_|fail)
 repeat ((fail_if_success refine c_probe (id := 7) ?_); (fail_if_success refine c_probe1 (id := 7) ?_); first|refine xTh ?_|fail)
 obtain ⟨q, hq⟩ : ∃ q, put l D ((k : Int) + 1) = q := ⟨_, rfl⟩
 have hpq : PosN b q := by rw [<- hq]; exact hl.put (by omega)
 have hpf : putF (kn l) D ((k : Int) + 1) = kn q := by rw [<- hq]; exact putF_kn fun x hx => by have := hDlt x hx; have := hl.1; omega
 obtain ⟨gd, hgd⟩ : ∃ gd : List Nat -> Prop, gd = fun E => Sp b.g (tabW rows) f (k + 1) (put q E (k + 1)) := ⟨_, rfl⟩
 have hSp : Sp b.g (tabW rows) (f + 1) k l ↔ (∀ x ∈ D, x ∈ may b.g k l) /\ (∀ x ∈ Sg.due b.g k l, x ∈ D) /\ ∀ E ∈ allCh (free b.g q) [], gd E := by
  rw [hgd, <- hq, <- hD]
  constructor
  ·intro h; exact ⟨h.1, h.2.1, fun E hE => h.2.2 E (free_ch.2 hE)⟩
  ·intro h; exact ⟨h.1, h.2.1, fun E hE => h.2.2 E (free_ch.1 hE)⟩
 have hno : ¬ ((∀ x ∈ D, x ∈ may b.g k l) /\ (∀ x ∈ Sg.due b.g k l, x ∈ D) /\ ∀ E ∈ allCh (free b.g q) [], gd E) -> spB b rows (f + 1) k l = false := fun h => by
  cases h2 : spB b rows (f + 1) k l with
  | false => rfl
  | true => exact absurd (hSp.1 (spB_iff.1 h2)) h
 obtain ⟨w1, hw1⟩ : ∃ w1, decide (∀ x ∈ D, x ∈ may b.g k l) = w1 := ⟨_, rfl⟩
 obtain ⟨w2, hw2⟩ : ∃ w2, decide (∀ x ∈ Sg.due b.g k l, x ∈ D) = w2 := ⟨_, rfl⟩
 have hmA : ∀ {p : Nat × Obj}, p ∈ gM nE 3 (may b.g k l) b1 r1 -> p ∈ (b6, Obj.cells ⟨[.bool false]⟩ 4 (0, 0)) :: (b5, .cells ⟨plC k (kn l)⟩ 54 (0, 0)) :: (gM nE 3 (may b.g k l) b1 r1 ++ gM nE 3 (Sg.due b.g k l) b2 r2) := fun hp => List.mem_cons_of_mem _ (List.mem_cons_of_mem _ (List.mem_append_left _ hp))
 have hdA : ∀ {p : Nat × Obj}, p ∈ gM nE 3 (Sg.due b.g k l) b2 r2 -> p ∈ (b6, Obj.cells ⟨[.bool false]⟩ 4 (0, 0)) :: (b5, .cells ⟨plC k (kn l)⟩ 54 (0, 0)) :: (gM nE 3 (may b.g k l) b1 r1 ++ gM nE 3 (Sg.due b.g k l) b2 r2) := fun hp => List.mem_cons_of_mem _ (List.mem_cons_of_mem _ (List.mem_append_right _ hp))
 repeat (first|refine lVa rfl rfl (by first|exact pEv rfl|fail) ?_|refine cRg ?_|refine cSq ?_|fail)
 refine r_call (v := .bool w1) rfl rfl rfl (fun W hW => ?_) ?_
 ·obtain ⟨A1, c', hA1, hAt1⟩ := gSl_at (cap := c1) hW (fun p hp => hmA hp)
  have h := within_nat A A1 cap c' D (may b.g k l) W (hDat hW (fun p hp => hdA hp)) hAt1 (by omega) (by omega)
  rw [<- hA1, hw1] at h
  exact h
 cases w1 with
 | false =>
  rw [hno fun h => of_decide_eq_false hw1 h.1]
  repeat (first|refine lVa rfl rfl (by first|exact pEv rfl|fail) ?_|refine lNi ?_|refine cRg ?_|refine cSq ?_|refine xTh ?_|refine l_skip rfl rfl ?_|refine rSt rfl rfl rfl rfl rfl rfl rfl (by repeat constructor) (by rfl) ?_|refine c_true rfl ?_|refine c_ret ?_|refine xTr ?_|fail)
  exact x_ret rfl rfl (by repeat constructor) rfl (fun W hW => ⟨rfl, hW.below⟩)
 | true =>
  repeat (first|refine lVa rfl rfl (by first|exact pEv rfl|fail) ?_|fail)
  refine r_call (v := .bool w2) rfl rfl rfl (fun W hW => ?_) ?_
  ·obtain ⟨A1, c', hA1, hAt1⟩ := gSl_at (cap := c2) hW (fun p hp => hdA hp)
   have h := within_nat A1 A c' cap (Sg.due b.g k l) D W hAt1 (hDat hW (fun p hp => hdA hp)) (by omega) (by omega)
   rw [<- hA1, hw2] at h
   exact h
  cases w2 with
  | false =>
   rw [hno fun h => of_decide_eq_false hw2 h.2.1]
   repeat (first|refine lVa rfl rfl (by first|exact pEv rfl|fail) ?_|refine lNi ?_|refine cRg ?_|refine cSq ?_|refine xTh ?_|refine rSt rfl rfl rfl rfl rfl rfl rfl (by repeat constructor) (by rfl) ?_|refine c_true rfl ?_|refine c_ret ?_|refine xTr ?_|fail)
   exact x_ret rfl rfl (by repeat constructor) rfl (fun W hW => ⟨rfl, hW.below⟩)
  | true =>
   have hfr6 : (free b.g q).length <= 6 := Nat.le_trans free_len hn
   repeat ((fail_if_success refine c_probe (id := 9) ?_); (fail_if_success refine c_probe1 (id := 9) ?_); first|refine lVa rfl rfl (by first|exact pEv rfl|fail) ?_|refine lNi ?_|refine xTh ?_|refine c_false rfl ?_|refine cSk ?_|fail)
   repeat refine cSq ?_
   refine c_new 0 7 [(1, .calO 0 (fun b => .agg ⟨plD a b⟩) (bxG a)), (5, .cal (.agg ⟨plC k (kn q)⟩)), (6, .calL [1, 2, 3, 4, 5, 6] (mvV (free b.g q) []) (mvO k (kn q) 1 (free b.g q) []))] [(1, [0]), (5, []), (6, [1, 2, 3, 4, 5, 6])] [(6, 0)] rfl (by decide +kernel) rfl ?_
   refine e_val rfl rfl rfl rfl (by first|exact vL0 rfl (by assumption) rfl (by rfl) ) ?_
   refine e_callO rfl rfl rfl rfl rfl rfl (fun W hW => desk_calls a W) (fun bq => ?_)
   refine e_val rfl rfl rfl rfl (by first|exact pEv rfl ) ?_
   refine e_val rfl rfl rfl rfl (v_loadAll rfl (by repeat constructor) rfl rfl plC_len) ?_
   refine e_val rfl rfl rfl rfl (by first|exact pEv rfl ) ?_
   refine e_call rfl rfl rfl rfl rfl (fun W hW => ?_) ?_
   ·have h := with_calls k (kn l) D A cap W (by omega) (fun x hx => by have := hDlt x hx; omega) (by omega) (hDat hW (fun p hp => by first|exact hdA hp|exact List.mem_cons_of_mem _ (hdA hp)))
    rw [hpf] at h
    exact h
   refine e_callvL rfl rfl rfl rfl rfl rfl rfl (by decide) (fun _ => mvO_len) rfl (fun W hW => ?_) (fun π => ?_)
   ·have hcell := hW.cellAt (b := bq) (l := [.pointer (some ⟨a, 0, none⟩)]) (T := 49) (fr := (0, 0)) (by repeat constructor) 0
    have hmv := movD_calls b a bq k (kn q) W hn (he.later hW.below).g hcell
    rw [free_flt] at hmv
    refine hmv.mono fun e W' h => ?_
    obtain ⟨π, h1, h2⟩ := movQ_L ⟨_⟩ h
    exact ⟨π, h1, fun m hm => h2 m hm⟩
   have hcok := cbP_ok (ps := free b.g q) (must := []) (π := π) hfr6 (by simp)
   obtain ⟨c, hc⟩ : ∃ c, cbP (free b.g q) [] π = c := ⟨_, rfl⟩
   rw [hc] at hcok
   have ho : mvO k (kn q) 1 (free b.g q) [] ⟨[.agg ⟨plC k (kn q)⟩, .pointer (some ⟨bq, 0, none⟩)]⟩ π = c.ms k (kn q) 1 (free b.g q) [] := by unfold mvO; rw [hc]
   have hov : mvV (free b.g q) [] ⟨[.agg ⟨plC k (kn q)⟩, .pointer (some ⟨bq, 0, none⟩)]⟩ π = c.v := by unfold mvV; rw [hc]
   refine e_nilP (mem' := c.ms k (kn q) 1 (free b.g q) [] ++ ((b6, .cells ⟨[.bool false]⟩ 4 (0, 0)) :: (bq, bxG a) :: (b5, .cells ⟨plC k (kn l)⟩ 54 (0, 0)) :: (gM nE 3 (may b.g k l) b1 r1 ++ gM nE 3 (Sg.due b.g k l) b2 r2))) ?_ ?_
   ·refine ((perm_setL (ps := [1, 2, 3, 4, 5, 6]) (m := [some (bq, bxG a), none, none, none, none, none, none]) ?_ (by decide) ?_).symm.append_right _).trans ?_
    ·intro p hp
     simp only [List.mem_cons, List.not_mem_nil, or_false] at hp
     rcases hp with rfl | rfl | rfl | rfl | rfl | rfl <;> rfl
    ·exact mvO_len
    ·refine List.Perm.trans (List.Perm.of_eq ?_) permS
     show (mvO k (kn q) 1 (free b.g q) [] ⟨[.agg ⟨plC k (kn q)⟩, .pointer (some ⟨bq, 0, none⟩)]⟩ π ++ [(bq, bxG a)]) ++ _ = _
     rw [ho]
   repeat (first|refine xTh ?_|refine cBl ?_|fail)
   refine c_rangeH (chH k (kn q) 1) (allCh (free b.g q) []) (fun x => x ∈ (c.ms k (kn q) 1 (free b.g q) []).map (·.1)) (c.ms k (kn q) 1 (free b.g q) []) (ι := Option Nat) (fun o => o.getD 0)
    (fun o => match o with | some i => ∀ S ∈ (allCh (free b.g q) []).take i, gd S | none => False)
    (fun _ => [(b6, .cells ⟨[.bool false]⟩ 4 (0, 0))])
    (fun cd o => cd = .ret /\ o = none /\ ∃ S ∈ allCh (free b.g q) [], ¬ gd S)
    (some 0) (show evOp _ (.tmp 52) = some c.v from congrArg some hov) (fun W W1 hW hS => cb_it c hfr6 (by simp) (fun x hx => by have := free_lt x hx; omega) (by omega) (by omega) hW (fun p hp => List.mem_append_left _ hp) hS) (fun b hb => .inr hb) (fun x _ vs ms h => by obtain ⟨b, cap, rest, _, rfl, _⟩ := h; rfl) (by decide) rfl
    (fun S hS => by simp at hS) (mSub_app (MSub.keep rfl MSub.nil) _)
    (env' := [(4, .pointer (some ⟨bF, 0, none⟩)), (6, .pointer (some ⟨b6, 0, none⟩))]) (by repeat (first|exact .nil|refine .cons rfl (by first|rfl|(congr 1; done)|exact congrArg _ (by omega)|(simp; done)) ?_)) ?_ ?_ ?_
   ·rintro (_ | i) hI hki vs ms hH n lp W hW hDl hol2
    ·exact hI.elim
    simp only [Option.getD_some] at hI hki hH hW hol2 ⊢
    obtain ⟨sb, scap, srest, hsg, rfl, rfl⟩ := hH
    obtain ⟨S, hS⟩ : ∃ S, (allCh (free b.g q) [])[i] = S := ⟨_, rfl⟩
    have hS2 : (allCh (free b.g q) [])[i]? = some S := by rw [List.getElem?_eq_getElem hki, hS]
    rw [hS] at hsg hW hol2 ⊢
    have hSm := List.mem_of_getElem? hS2
    have hSl := ch_lt hSm free_lt
    have hgS : gd S ↔ Sp b.g (tabW rows) f (k + 1) (put q S (k + 1)) := by rw [hgd]
    obtain ⟨q2, hq2⟩ : ∃ q2, put q S ((k : Int) + 1) = q2 := ⟨_, rfl⟩
    have hpq2 : PosN b q2 := by rw [<- hq2]; exact hpq.put (by omega)
    have hpf2 : putF (kn q) S ((k : Int) + 1) = kn q2 := by rw [<- hq2]; exact putF_kn fun x hx => by have := hSl x hx; have := hpq.1; omega
    rw [hq2] at hgS
    rw [hpf2]
    refine c_sub _ (List.sublist_append_right _ _) ?_
    repeat (first|refine r_alloc rfl rfl rfl (plC_zero rfl) (fun _ => ?_)|refine rSt (vs := plC _ _) rfl rfl rfl rfl rfl plC_beq plC_one (by repeat constructor) (putAll (plC_len.trans plC_len.symm)) ?_|refine lNi ?_|refine cRg ?_|fail)
    refine x_body hW hDl hol2 (fun n2 W2 r2 hW2 hr2 ho2 => ?_)
    rename_i b8
    have eF2 := eF.into hW2
    have ekk : (((k + 1 : Nat)) : Int) = (k : Int) + 1 := by omega
    rw [ekk] at ih
    obtain ⟨v2, hv2⟩ : ∃ v2, spB b rows f (k + 1) q2 = v2 := ⟨_, rfl⟩
    repeat (first|refine lVa rfl rfl (by first|exact vLd rfl (by repeat constructor) rfl (by rfl)|exact vL0 rfl (by assumption) rfl (by rfl)|fail) ?_|refine cRg ?_|refine cSq ?_|refine cBl ?_|fail)
    refine r_callv (v := .bool v2) rfl rfl rfl rfl rfl (fun W3 hW3 => ?_) ?_
    ·have := ih q2 W3 hpq2 (he.later (hW2.back hW3).below)
     rw [hv2] at this
     exact this
    cases v2 with
    | false =>
     have hng : ¬ gd S := fun h => by
      have := spB_iff.2 (hgS.1 h)
      rw [hv2] at this; cases this
     repeat (first|refine lVa rfl rfl (by first|exact pEv rfl|fail) ?_|refine lNi ?_|refine cRg ?_|refine cSq ?_|refine xTh ?_|refine rSt rfl rfl rfl rfl rfl rfl rfl (by repeat constructor) (by rfl) ?_|refine c_true rfl ?_|refine c_ret ?_|refine xBr ?_|fail)
     exact x_leave_ret none ⟨rfl, rfl, S, hSm, hng⟩ (by repeat (first|exact .nil|refine .keep (by first|rfl|assumption) ?_|refine .drop ?_|exact MSub.refl _))
    | true =>
     have hgo : gd S := hgS.2 (spB_iff.1 hv2)
     repeat (first|refine lVa rfl rfl (by first|exact pEv rfl|fail) ?_|refine lNi ?_|refine xTh ?_|refine c_false rfl ?_|refine cSk ?_|refine x_block ?_|fail)
     refine x_next (some (i + 1)) rfl (fun S' hS' => ?_) (by repeat (first|exact .nil|refine .keep (by first|rfl|assumption) ?_|refine .drop ?_|exact MSub.refl _))
     rw [List.take_add_one, hS2] at hS'
     rcases List.mem_append.1 hS' with h | h
     ·exact hI S' h
     ·simp only [Option.toList_some, List.mem_singleton] at h
      rw [h]; exact hgo
   ·rintro B (_ | i) hki hI
    ·exact hI.elim
    simp only [Option.getD_some] at hki hI
    rw [hki, List.take_length] at hI
    have hv : spB b rows (f + 1) k l = true := spB_iff.2 (hSp.2 ⟨of_decide_eq_true hw1, of_decide_eq_true hw2, hI⟩)
    rw [hv]
    refine x_part (c.ms k (kn q) 1 (free b.g q) []) (mem' := [(B, .deferred (some [])), (b6, .cells ⟨[.bool false]⟩ 4 (0, 0))]) List.perm_middle.symm ?_
    repeat (first|refine lNi ?_|refine cRg ?_|refine cSq ?_|refine xTh ?_|refine rSt rfl rfl rfl rfl rfl rfl rfl (by repeat constructor) (by rfl) ?_|refine c_ret ?_|refine x_block ?_|fail)
    exact x_rets (Ds := [B]) rfl rfl (Split.mark (split_self _)) rfl (by repeat constructor) rfl (fun W hW => ⟨rfl, hW.below⟩)
   ·rintro B cd o ⟨rfl, rfl, S, hS, hng⟩
    rw [hno fun h => hng (h.2.2 S hS)]
    refine c_part (c.ms k (kn q) 1 (free b.g q) []) (mem' := [(B, .deferred (some [])), (b6, .cells ⟨[.bool false]⟩ 4 (0, 0))]) List.perm_middle.symm ?_
    repeat (first|refine c_ret ?_|refine xTr ?_|refine xBr ?_|fail)
    exact x_rets (Ds := [B]) rfl rfl (Split.mark (split_self _)) rfl (by repeat constructor) rfl (fun W hW => ⟨rfl, hW.below⟩)
theorem spoils52_calls (b : GB) (a bT bG bM bF bm : Nat) (rows : List DW) (hb : GOK b) (hok : okS b.n b.T rows) : ∀ (f k : Nat), k + f = b.T + 1 -> ∀ (l : List Int) (w : World), PosN b l -> WEnv b a bT bG bM bF bm 31 rows w ->
  Calls Tryz.prog 31 ⟨[] ++ [.agg ⟨plC k (kn l)⟩] ++ capsW bT bG bM bF⟩ w fun e w' => e = .returned (.bool (spB b rows f k l)) /\ Below w.heap.size w w'
 | 0, k, hk, l, w, hl, he => spoils52_end b a bT bG bM bF bm rows hb k (by omega) l w hl he
 | f + 1, k, hk, l, w, hl, he => spoils52_step b a bT bG bM bF bm rows hb hok f k hk (fun l w hl he => spoils52_calls b a bT bG bM bF bm rows hb hok f (k + 1) (by omega) l w hl he) l w hl he
end R24
end Go.Proofs
