/- From witnesses to the edition: the law, walked. -/
import Derived.Test.YtdegengehbdelaaGreatDoorSfO
import Derived.Test.YtdegengehbdelaaGreatDoorTeD
set_option maxRecDepth 100000
set_option maxHeartbeats 400000000
set_option linter.unusedSectionVars false
set_option linter.unusedVariables false
set_option linter.unusedSimpArgs false
namespace Go.Proofs
open Go.RowKit Go.Kin Go.Kin.Se Go.Kin.Cl
namespace R41
structure HSt where
 k : Nat
 b : Nat
 c : Nat
 r : List Value
theorem TopEdition_calls (A : Option Addr) (cap : Nat) (ws : List Wi) (no wh oth : Nat) (w : World) (hA : Kin.At w A 3 (ws.map wiE)) (hx : ∀ x ∈ ws, WiOK w x) (hg : Glob w) (hwl : ws.length <= 9223372036854775807) (hno : no < 65536) (hwh : wh < 65536) (hoth : oth < 65536) :
  Calls Tryz.prog 3 ⟨[.slice A ws.length cap, .int .u16 no, .int .u16 wh, .int .u16 oth]⟩ w fun e w' => e = .returned (.bool true) /\ Below w.heap.size w w' := by
 have h4 := fun W (hW : Below w.heap.size w W) => sane4_calls W (hg.later hW)
 have h5 := fun W (hW : Below w.heap.size w W) => few5_calls A cap ws W (hA.later hW) hwl (fun x hxm => (hx x hxm).len)
 refine fEn Tryz.func3 rfl Tryz.ntmps3 rfl rfl (sWn w) ?_
 repeat (first|refine lVa rfl rfl (by first|exact pEv rfl|fail) ?_|refine lNi ?_|refine cRg ?_|refine cSq ?_|refine xTh ?_|fail)
 refine r_call rfl rfl rfl (fun W hW => h4 W hW.below) ?_
 by_cases hl4 : ws.length > 4
 ·repeat (first|refine lVa rfl rfl (by first|exact pEv rfl|fail) ?_|refine lNi ?_|refine cRg ?_|refine cSq ?_|refine xTh ?_|refine l_skip rfl rfl ?_|refine c_true rfl ?_|refine c_false rfl ?_|refine cSk ?_|refine c_ret ?_|refine xTr ?_|refine l_dec_t rfl rfl rfl rfl rfl (by first|omega|fail) ?_|fail)
  exact x_ret rfl rfl (by repeat constructor) rfl (fun W hW => ⟨rfl, hW.below⟩)
 by_cases hfew : (ws.length <= 5 /\ ∀ x ∈ ws, x.rs.length <= 8)
 rotate_left
 ·rw [decide_eq_false hfew] at h5
  clear hfew
  repeat (first|refine lVa rfl rfl (by first|exact pEv rfl|fail) ?_|refine lNi ?_|refine cRg ?_|refine cSq ?_|refine xTh ?_|refine c_false rfl ?_|refine cSk ?_|refine l_dec_f rfl rfl rfl rfl rfl (by first|omega|fail) ?_|fail)
  refine r_call rfl rfl rfl (fun W hW => h5 W hW.below) ?_
  repeat (first|refine lVa rfl rfl (by first|exact pEv rfl|fail) ?_|refine lNi ?_|refine cRg ?_|refine cSq ?_|refine xTh ?_|refine c_true rfl ?_|refine c_ret ?_|refine xTr ?_|fail)
  exact x_ret rfl rfl (by repeat constructor) rfl (fun W hW => ⟨rfl, hW.below⟩)
 rw [decide_eq_true hfew] at h5
 clear hfew
 repeat (first|refine lVa rfl rfl (by first|exact pEv rfl|fail) ?_|refine lNi ?_|refine cRg ?_|refine cSq ?_|refine xTh ?_|refine c_false rfl ?_|refine cSk ?_|refine l_dec_f rfl rfl rfl rfl rfl (by first|omega|fail) ?_|fail)
 refine r_call rfl rfl rfl (fun W hW => h5 W hW.below) ?_
 clear h5
 repeat (first|refine lVa rfl rfl (by first|exact pEv rfl|fail) ?_|refine lNi ?_|refine cRg ?_|refine cSq ?_|refine xTh ?_|refine c_false rfl ?_|refine cSk ?_|fail)
 refine l_callF (ι := Option Addr × Nat × List RV) (v := fun q => .tuple ⟨[.slice q.1 q.2.2.length q.2.1, .int .i64 (tabE ws)]⟩) (mem' := []) (fun q W W' => q.2.2.map RV.l = tabR ws /\ RowsF W W' q.1 q.2.2) rfl rfl rfl (by repeat (first|exact .nil|refine .keep (by first|rfl|assumption) ?_|refine .drop ?_|exact MSub.refl _)) (fun W hW => ?_) ?_
 ·refine (Table_calls A cap ws W (hA.sat hW) (fun x hxm => (hx x hxm).later hW.below) (by omega)).mono ?_
  rintro e W' ⟨TA, tc, rows, h1, h2, h3, h4⟩
  exact ⟨(TA, tc, rows), h1, h2, h3, h4⟩
 rintro ⟨TA, tc, rows⟩ W W1 hV hB1 hW1 ⟨hr1, hr2⟩
 simp only at hr1 hr2 ⊢
 have hb01 : Below w.heap.size w W1 := hW1.same.base_later
 have hTb : TabIn W1 TA rows := ⟨hr2.top.at', fun v hv => (hr2.row v hv).at'⟩
 have hA1 : Kin.At W1 A 3 (ws.map wiE) := hA.later hb01
 have hx1 : ∀ x ∈ ws, WiOK W1 x := fun x h => (hx x h).later hb01
 have hg1 := hg.later hb01
 clear hV hB1 hW1 hr2 hA hx hg h4
 have hb : ∀ (mem : List (Nat × Obj)) (W : World), SatW W1 (allBut W1 (List.map (·.1) ([] : List (Nat × Obj)))) noJ mem W -> Below W1.heap.size W1 W := fun mem W hW => hW.same.below (Nat.le_refl _) fun k hk => ⟨hk, by simp⟩
 by_cases h0 : tabE ws = 0
 rotate_left
 ·obtain ⟨e, he⟩ : ∃ e, tabE ws = e := ⟨_, rfl⟩
  rw [he] at h0 ⊢
  clear hr1
  repeat (first|refine lVa rfl rfl (by first|exact pEv rfl|fail) ?_|refine lNi ?_|refine cRg ?_|refine cSq ?_|refine xTh ?_|refine l_skip rfl rfl ?_|refine c_true rfl ?_|refine c_ret ?_|refine xTr ?_|refine l_dec_t rfl rfl rfl rfl rfl (by first|omega|fail) ?_|fail)
  exact x_ret rfl rfl (by repeat constructor) rfl (fun W hW => ⟨rfl, hb01.trans ((hb _ W hW).mono hb01.size)⟩)
 rw [h0]
 by_cases hne : ws = []
 ·have hrows : rows = [] := by
   rw [hne] at hr1
   exact List.map_eq_nil_iff.1 hr1
  subst hrows
  repeat (first|refine lVa rfl rfl (by first|exact pEv rfl|fail) ?_|refine lNi ?_|refine cRg ?_|refine cSq ?_|refine xTh ?_|refine l_skip rfl rfl ?_|refine c_true rfl ?_|refine c_ret ?_|refine xTr ?_|fail)
  exact x_ret rfl rfl (by repeat constructor) rfl (fun W hW => ⟨rfl, hb01.trans ((hb _ W hW).mono hb01.size)⟩)
 have hT := tbOK_of h0 hne hr1
 obtain ⟨m, hm⟩ : ∃ m, lociN (lsW ws) = m := ⟨_, rfl⟩
 rw [hm] at hT
 clear hm
 have hn := hT.n
 have hwn : 0 < ws.length := List.length_pos_iff.2 hne
 obtain ⟨v0, hv0⟩ : ∃ v, rows[0]? = some v := ⟨_, List.getElem?_eq_getElem (by omega)⟩
 have hv0l := hT.len v0 (List.mem_of_getElem? hv0)
 obtain ⟨bt, ot, hAt, hct⟩ := hTb.ar 0 (rvE v0) (by rw [List.getElem?_map, hv0]; rfl)
 subst hAt
 have y0 : Ext W1 (allBut W1 (List.map (·.1) ([] : List (Nat × Obj)))) bt (ot + 0 * 1) [.slice v0.A v0.l.length v0.cap] := ⟨⟨(ext_of hct).dom, by simp⟩, (ext_of hct).cell⟩
 rw [hv0l] at y0
 obtain ⟨n, hnn⟩ : ∃ n, rows.length = n := ⟨_, rfl⟩
 by_cases hm12 : m > 12
 ·rw [hnn]
  repeat (first|refine lVa rfl rfl (by first|exact pEv rfl|exact vL0 rfl (by assumption) rfl (by rfl)|exact v_index rfl rfl rfl rfl (by omega) (by omega) (by with_reducible first|exact idx6 _ _|fail)|fail) ?_|refine lNi ?_|refine cRg ?_|refine cSq ?_|refine xTh ?_|refine c_dec_t rfl (by first|omega|fail) ?_|refine c_ret ?_|refine xTr ?_|refine l_dec_f rfl rfl rfl rfl rfl (by first|omega|fail) ?_|fail)
  exact x_ret rfl rfl (by repeat constructor) rfl (fun W hW => ⟨rfl, hb01.trans ((hb _ W hW).mono hb01.size)⟩)
 have hO := hT.tab (by omega) (by omega) (by omega)
 have n1 := hO.n1
 have n4 : rows.length < 5 := by omega
 have h7 := fun W (hW : Below W1.heap.size W1 W) => best7_calls (some ⟨bt, ot, none⟩) tc rows m W (hTb.later hW) (hg1.later hW) hO n4
 have hokT := fun cl (h : cl ∈ trees rows.length) => okTr_of n1 n4 h
 have h8 := fun W => all8_calls rows.length n1 n4 W
 have hrn := fun cl (h : cl ∈ trees rows.length) => root_of n1 n4 h
 have h9 := fun W (hW : Below W1.heap.size W1 W) cl (h : cl ∈ trees rows.length) Ac capc (hC : Kin.At W Ac 1 (cl.map nE)) => Cost9_calls (some ⟨bt, ot, none⟩) tc rows m Ac capc cl (tre rows.length cl) W (hTb.later hW) hC (hg1.later hW) hO (hokT cl h).1 (hokT cl h).2
 have htne := trees_ne rows.length n4 n1
 have hlv := fun cl (h : cl ∈ trees rows.length) => (hokT cl h).1.lv
 rw [hnn] at h7 h8 h9 htne n1 n4 hokT hrn hlv ⊢
 repeat (first|refine lVa rfl rfl (by first|exact pEv rfl|exact vL0 rfl (by assumption) rfl (by rfl)|exact v_index rfl rfl rfl rfl (by omega) (by omega) (by with_reducible first|exact idx6 _ _|fail)|fail) ?_|refine lNi ?_|refine cRg ?_|refine cSq ?_|refine xTh ?_|refine c_dec_f rfl (by first|omega|fail) ?_|refine cSk ?_|refine l_dec_f rfl rfl rfl rfl rfl (by first|omega|fail) ?_|fail)
 refine l_callF (ι := BeI (cstF rows m) n) (v := BeI.v) (mem' := []) (fun i W W' => SatW W (allBut W (List.map (·.1) ([] : List (Nat × Obj)))) noJ i.m W') rfl rfl rfl (by repeat (first|exact .nil|refine .keep (by first|rfl|assumption) ?_|refine .drop ?_|exact MSub.refl _)) (fun W hW => ?_) ?_
 ·exact (h7 W (hb _ W hW)).mono fun e W' ⟨i, q1, q2⟩ => ⟨i, q1, q2.same.below (Nat.le_refl _) fun k hk => ⟨hk, by simp⟩, q2⟩
 rintro ⟨bes, bl, bc, bb, bk, brr, bok, bgr⟩ W W2 hV hB2 hW2 hS2
 obtain ⟨p1, p2, p3, p4, p5⟩ := bok
 have hb12 : Below W1.heap.size W1 W2 := hb _ W2 hW2
 have hbl : 0 < bl.length := List.length_pos_iff.2 p3
 obtain ⟨e1, he1⟩ : ∃ e, bl[wh % bl.length]? = some e := ⟨_, List.getElem?_eq_getElem (Nat.mod_lt _ hbl)⟩
 have hAb : At W2 (some ⟨bb, 0, none⟩) 1 (bl.map RwE.v) := by
  obtain ⟨A', c', g1, g2⟩ := at_gM (b := bb) (cap := bk) hS2 (fun p hp => List.mem_append_left _ hp) (fun _ => rfl)
  rw [gSl_ne p3] at g1
  cases g1
  exact g2
 have he1m := (p4 e1 (List.mem_of_getElem? he1)).1
 have hco := (p4 e1 (List.mem_of_getElem? he1)).2
 have htr1 : e1.l ∈ trees n := p1.mem_iff.1 (List.mem_map.2 ⟨e1, he1m, rfl⟩)
 obtain ⟨Ae, ke, hAe, hAtE⟩ := rw_at hS2 (fun p hp => List.mem_append_right _ hp) he1m
 have hmin : ∀ cl, cl ∈ trees n -> bc <= cstF rows m cl := fun cl h => by
  obtain ⟨e2, q1, q2⟩ := List.mem_map.1 (p1.mem_iff.2 h)
  rw [<- q2]; exact p5 e2 q1
 simp only [BeI.v]
 rw [gSl_ne p3]
 obtain ⟨bn, hbn⟩ : ∃ k, bl.length = k := ⟨_, rfl⟩
 rw [hbn] at hbl he1 ⊢
 clear hb hV hB2 hW2 hS2 p1 p4 p5 y0
 repeat (first|refine lVa rfl rfl (by first|exact pEv rfl|fail) ?_|refine lNi ?_|refine cRg ?_|refine cSq ?_|refine xTh ?_|fail)
 refine l_callF (ι := RwP (trees n)) (v := fun i => .tuple ⟨[i.v, .int .i64 0]⟩) (mem' := []) (fun i W W' => SatW W (allBut W (List.map (·.1) ([] : List (Nat × Obj)))) noJ i.m W') rfl rfl rfl (by repeat (first|exact .nil|refine .keep (by first|rfl|assumption) ?_|refine .drop ?_|exact MSub.refl _)) (fun W hW => ?_) ?_
 ·exact (h8 W).mono fun e W' ⟨i, q1, q2⟩ => ⟨i, q1, q2.same.below (Nat.le_refl _) fun k hk => ⟨hk, by simp⟩, q2⟩
 rintro ⟨⟨aes, ab, ak, arr⟩, apk⟩ W W3 hV hB3 hW3 hS3
 obtain ⟨p6, p7, p8⟩ := apk
 simp only at p6 p7 p8
 have hb23 : Below W2.heap.size W2 W3 := hW3.same.below (Nat.le_refl _) fun k hk => ⟨hk, by simp⟩
 have hb13 : Below W1.heap.size W1 W3 := hb12.trans (hb23.mono hb12.size)
 have hane : aes ≠ [] := fun e => by rw [e] at p6; exact htne (List.nil_perm.1 p6)
 have hal : 0 < aes.length := List.length_pos_iff.2 hane
 obtain ⟨e2, he2⟩ : ∃ e, aes[oth % aes.length]? = some e := ⟨_, List.getElem?_eq_getElem (Nat.mod_lt _ hal)⟩
 have he2m := List.mem_of_getElem? he2
 have htr2 : e2.l ∈ trees n := p6.mem_iff.1 (List.mem_map.2 ⟨e2, he2m, rfl⟩)
 obtain ⟨Ag, kg, hAg, hAtG⟩ := rw_at hS3 (fun p hp => List.mem_append_right _ hp) he2m
 have hAa : At W3 (some ⟨ab, 0, none⟩) 1 (aes.map RwE.v) := by
  obtain ⟨A', c', g1, g2⟩ := at_gM (b := ab) (cap := ak) hS3 (fun p hp => List.mem_append_left _ hp) (fun _ => rfl)
  rw [gSl_ne hane] at g1
  cases g1
  exact g2
 have hAb3 := hAb.later hb23
 have hAtE3 := hAtE.later hb23
 have hok3 : ∀ {b o : Nat} {cs : List Value}, b < W3.heap.size -> (∀ (j : Nat) (v : Value), cs[j]? = some v -> W3.cell? ⟨b, o + j, none⟩ = some v) -> Ext W3 (allBut W3 (List.map (·.1) ([] : List (Nat × Obj)))) b o cs := fun h1 h2 => ⟨⟨h1, by simp⟩, h2⟩
 obtain ⟨b', o', hb', hcb⟩ := hAb3 (wh % bn) (RwE.v e1) (by rw [List.getElem?_map, he1]; rfl)
 cases hb'
 have y2 : Ext W3 (allBut W3 (List.map (·.1) ([] : List (Nat × Obj)))) bb (0 + wh % bn * 1) [gSl e1.l e1.b e1.c] := hok3 (ext_of hcb).dom (ext_of hcb).cell
 rw [hAe] at y2
 obtain ⟨q1, hq1⟩ : ∃ q, wh % bn = q := ⟨_, rfl⟩
 have hq1l : q1 < bn := by rw [<- hq1]; exact Nat.mod_lt _ hbl
 rw [hq1, Nat.zero_add, Nat.mul_one] at y2
 obtain ⟨an, han⟩ : ∃ k, aes.length = k := ⟨_, rfl⟩
 rw [han] at hal he2
 obtain ⟨b', o', hb', hca⟩ := hAa (oth % an) (RwE.v e2) (by rw [List.getElem?_map, he2]; rfl)
 cases hb'
 have y3 : Ext W3 (allBut W3 (List.map (·.1) ([] : List (Nat × Obj)))) ab (0 + oth % an * 1) [gSl e2.l e2.b e2.c] := hok3 (ext_of hca).dom (ext_of hca).cell
 rw [hAg] at y3
 obtain ⟨q2, hq2⟩ : ∃ q, oth % an = q := ⟨_, rfl⟩
 have hq2l : q2 < an := by rw [<- hq2]; exact Nat.mod_lt _ hal
 rw [hq2, Nat.zero_add, Nat.mul_one] at y3
 simp only [RwP.v]
 rw [gSl_ne hane, han]
 have hb := fun (mem : List (Nat × Obj)) (W : World) (hW : SatW W3 (allBut W3 (List.map (·.1) ([] : List (Nat × Obj)))) noJ mem W) => show Below W1.heap.size W1 W from hb13.trans ((hW.same.below (Nat.le_refl _) fun k hk => ⟨hk, by simp⟩ : Below W3.heap.size W3 W).mono hb13.size)
 have hb3 := fun (mem : List (Nat × Obj)) (W : World) (hW : SatW W3 (allBut W3 (List.map (·.1) ([] : List (Nat × Obj)))) noJ mem W) => (hW.same.below (Nat.le_refl _) fun k hk => ⟨hk, by simp⟩ : Below W3.heap.size W3 W)
 have hc1 := fun (mem : List (Nat × Obj)) (W : World) (hW : SatW W3 (allBut W3 (List.map (·.1) ([] : List (Nat × Obj)))) noJ mem W) => h9 W (hb _ W hW) e1.l htr1 Ae ke (hAtE3.later (hb3 _ W hW))
 have hc2 := fun (mem : List (Nat × Obj)) (W : World) (hW : SatW W3 (allBut W3 (List.map (·.1) ([] : List (Nat × Obj)))) noJ mem W) => h9 W (hb _ W hW) e2.l htr2 Ag kg (hAtG.later (hb3 _ W hW))
 have hv1 : csum rows (tre n e1.l) m = bc := by rw [<- hnn]; exact hco
 have hv2 : bc <= csum rows (tre n e2.l) m := by rw [<- hnn]; exact hmin e2.l htr2
 rw [hv1] at hc1
 obtain ⟨vy, hvy⟩ : ∃ k, csum rows (tre n e2.l) m = k := ⟨_, rfl⟩
 rw [hvy] at hc2 hv2
 have htw : ∀ W', Below W3.heap.size W3 W' -> e1.l ≠ [] -> At W' (some ⟨e1.b, 0, none⟩) 1 (e1.l.map nE) := fun W' hB h => by
  rw [gSl_ne h] at hAe
  injection hAe with e _ _
  rw [e]; exact hAtE3.later hB
 have hT1 : OkTr rows.length e1.l (tre n e1.l) /\ chkB rows.length e1.l = true := by rw [hnn]; exact hokT e1.l htr1
 have h10 := fun (mem : List (Nat × Obj)) (W : World) (hW : SatW W3 (allBut W3 (List.map (·.1) ([] : List (Nat × Obj)))) noJ mem W) => make10_calls (some ⟨bt, ot, none⟩) tc rows m e1.b e1.c e1.l (tre n e1.l) (no : Int) W (hTb.later (hb mem W hW)) (htw W (hb3 mem W hW)) (hg1.later (hb mem W hW)) hO hT1.1 hT1.2 (hrn e1.l htr1) ⟨by omega, by omega⟩
 rw [hAe, hnn] at h10
 have hv2' : ¬ ((vy : Int) < (bc : Int)) := by omega
 clear hV hB3 hW3 hS3 p6 p7 p8 hcb hca hAa hAb3 hAb h7 h8 h9
 repeat ((fail_if_success refine c_probe (id := 12) ?_); (fail_if_success refine c_probe1 (id := 12) ?_); first|refine lVa rfl rfl (by first|exact pEv rfl|fail) ?_|refine lNi ?_|refine cRg ?_|refine cSq ?_|refine xTh ?_|refine c_dec_f rfl (by first|omega|fail) ?_|refine cSk ?_|refine l_dec_f rfl rfl rfl rfl rfl (by first|omega|fail) ?_|fail)
 refine cSq ?_
 repeat ((fail_if_success refine c_probe (id := 13) ?_); (fail_if_success refine c_probe1 (id := 13) ?_); first|refine lVa rfl rfl (v_remN rfl rfl hbl hq1) ?_|refine lVa rfl rfl (by first|exact v_iconv rfl rfl rfl (by omega) (by omega)|exact pEv rfl|exact vL0 rfl (by assumption) rfl (by rfl)|exact v_index rfl rfl rfl rfl (by omega) (by omega) (by with_reducible first|exact idx1 _|fail)|fail) ?_|refine lNi ?_|refine cRg ?_|refine xTh ?_|fail)
 refine cSq ?_
 repeat ((fail_if_success refine c_probe (id := 14) ?_); (fail_if_success refine c_probe1 (id := 14) ?_); first|refine r_call rfl rfl rfl (fun W hW => hc1 _ W hW) ?_|refine lVa rfl rfl (by first|exact pEv rfl|fail) ?_|refine lNi ?_|refine cRg ?_|refine xTh ?_|fail)
 refine cSq ?_
 repeat ((fail_if_success refine c_probe (id := 15) ?_); (fail_if_success refine c_probe1 (id := 15) ?_); first|refine lVa rfl rfl (v_remN rfl rfl hal hq2) ?_|refine r_call rfl rfl rfl (fun W hW => hc2 _ W hW) ?_|refine lVa rfl rfl (by first|exact v_iconv rfl rfl rfl (by omega) (by omega)|exact pEv rfl|exact vL0 rfl (by assumption) rfl (by rfl)|exact v_index rfl rfl rfl rfl (by omega) (by omega) (by with_reducible first|exact idx1 _|fail)|fail) ?_|refine lNi ?_|refine cRg ?_|refine xTh ?_|fail)
 clear hc1 hc2 y2 y3
 repeat ((fail_if_success refine c_probe (id := 17) ?_); (fail_if_success refine c_probe1 (id := 17) ?_); first|refine lVa rfl rfl (by first|exact pEv rfl|fail) ?_|refine lNi ?_|refine cRg ?_|refine cSq ?_|refine xTh ?_|refine c_dec_f rfl (by first|omega|fail) ?_|refine cSk ?_|refine l_dec_f rfl rfl rfl rfl rfl (by first|omega|fail) ?_|fail)
 repeat (first|refine lVa rfl rfl (by first|exact v_iconv rfl rfl rfl (by omega) (by omega)|exact pEv rfl|fail) ?_|refine cRg ?_|refine cSq ?_|fail)
 refine l_callF (ι := EdI e1.l (rdL rows (tre n e1.l) m)) (v := fun i => .tuple ⟨[i.a no, .int .i64 0]⟩) (mem' := []) (fun i W W' => SatW W (allBut W (List.map (·.1) ([] : List (Nat × Obj)))) noJ i.m W') rfl rfl rfl (by repeat (first|exact .nil|refine .keep (by first|rfl|assumption) ?_|refine .drop ?_|exact MSub.refl _)) (fun W hW => (h10 _ W hW).mono fun e W' ⟨i, q1, q2⟩ => ⟨i, q1, q2.same.below (Nat.le_refl _) fun k hk => ⟨hk, by simp⟩, q2⟩) ?_
 rintro ⟨b1, c1, r1, b2, c2, r2, g1, g2⟩ W W4 hV hB4 hW4 hS4
 have hb34 : Below W3.heap.size W3 W4 := hW4.same.below (Nat.le_refl _) fun k hk => ⟨hk, by simp⟩
 have hb14 : Below W1.heap.size W1 W4 := hb13.trans (hb34.mono hb13.size)
 have hC4 : e1.l ≠ [] -> Kin.At W4 (some ⟨b1, 0, none⟩) 1 (e1.l.map nE) := fun h => at_gM' hS4 (fun p hp => List.mem_append_left _ hp) (fun _ => rfl) h
 have hR4 : rdL rows (tre n e1.l) m ≠ [] -> Kin.At W4 (some ⟨b2, 0, none⟩) 1 ((rdL rows (tre n e1.l) m).map inE) := fun h => at_gM' hS4 (fun p hp => List.mem_append_right _ hp) (fun _ => rfl) h
 have hSg := hT.sg (t := tre n e1.l) (by rw [hnn]; exact hlv e1.l htr1)
 have hb4 := fun (mem : List (Nat × Obj)) (W : World) (hW : SatW W4 (allBut W4 (List.map (·.1) ([] : List (Nat × Obj)))) noJ mem W) => (hW.same.below (Nat.le_refl _) fun k hk => ⟨hk, by simp⟩ : Below W4.heap.size W4 W)
 have hb4' := fun (mem : List (Nat × Obj)) (W : World) (hW : SatW W4 (allBut W4 (List.map (·.1) ([] : List (Nat × Obj)))) noJ mem W) => hb14.trans ((hb4 mem W hW).mono hb14.size)
 have h11 := fun (mem : List (Nat × Obj)) (W : World) (hW : SatW W4 (allBut W4 (List.map (·.1) ([] : List (Nat × Obj)))) noJ mem W) => signs11_calls A cap ws (some ⟨bt, ot, none⟩) tc rows m b1 c1 b2 c2 e1.l (tre n e1.l) (no : Int) W (hA1.later (hb4' mem W hW)) (fun x h => (hx1 x h).later (hb4' mem W hW)) (by omega) (hTb.later (hb4' mem W hW)) hr1 h0 (fun h => (hC4 h).later (hb4 mem W hW)) (fun h => (hR4 h).later (hb4 mem W hW)) (hg1.later (hb4' mem W hW)) hO hT1.1 hT1.2 (hrn e1.l htr1) ⟨by omega, by omega⟩ hSg
 have hrl : (rdL rows (tre n e1.l) m).length = m := rdL_len
 obtain ⟨rd, hrd⟩ : ∃ rd, rdL rows (tre n e1.l) m = rd := ⟨_, rfl⟩
 simp only [EdI.a]
 rw [hrd] at h11 hrl hR4 hSg ⊢
 obtain ⟨Ac, kc, hAc⟩ := gSl_len (l := e1.l) (b := b1) (cap := c1)
 obtain ⟨Ad, kd, hAd, hRt⟩ : ∃ Ac kc, gSl rd b2 c2 = .slice Ac rd.length kc /\ Kin.At W4 Ac 1 (rd.map inE) := by
  by_cases hl : rd = []
  ·subst hl; exact ⟨none, 0, rfl, fun i r hr => by simp at hr⟩
  ·exact ⟨_, _, gSl_ne hl, hR4 hl⟩
 rw [hAc, hAd, hnn, hrl] at h11
 rw [hAc, hAd, hrl]
 clear h10 hV hB4 hW4 hS4 hb3
 repeat (first|refine lVa rfl rfl (by first|exact pEv rfl|exact vLd rfl (by repeat constructor) rfl (by rfl)|fail) ?_|refine lNi ?_|refine cRg ?_|refine cSq ?_|refine xTh ?_|refine r_alloc rfl rfl rfl (by first|exact aggL|fail) (fun _ => ?_)|refine rSt rfl rfl rfl rfl rfl rfl rfl (by repeat constructor) (by rfl) ?_|fail)
 rename_i b19
 refine l_callF (ι := SgI rd m) (v := SgI.v) (mem' := []) (fun i W W' => SatW W (allBut W (List.map (·.1) ([] : List (Nat × Obj)))) noJ i.m W') rfl rfl rfl (by repeat (first|exact .nil|refine .keep (by first|rfl|assumption) ?_|refine .drop ?_|exact MSub.refl _)) (fun W hW => (h11 _ W hW).mono fun e W' ⟨i, q1, q2⟩ => ⟨i, q1, q2.same.below (Nat.le_refl _) fun k hk => ⟨hk, by simp⟩, q2⟩) ?_
 rintro ⟨sg, bs, cs, rs, hZ, hgs⟩ W W5 hV hB5 hW5 hS5
 have hb45 : Below W4.heap.size W4 W5 := by
  have h1 := hb4 _ W hV
  exact h1.trans (hB5.mono h1.size)
 have hb15 : Below W1.heap.size W1 W5 := hb14.trans (hb45.mono hb14.size)
 have hb35 : Below W3.heap.size W3 W5 := hb34.trans (hb45.mono hb34.size)
 have hb25 : Below W2.heap.size W2 W5 := hb23.trans (hb35.mono hb23.size)
 have hok5 : ∀ {b o : Nat} {cs : List Value}, b < W5.heap.size -> (∀ (j : Nat) (v : Value), cs[j]? = some v -> W5.cell? ⟨b, o + j, none⟩ = some v) -> Ext W5 (allBut W5 (List.map (·.1) ([] : List (Nat × Obj)))) b o cs := fun h1 h2 => ⟨⟨h1, by simp⟩, h2⟩
 have hsgA : ∃ As ks, gSl sg bs cs = .slice As sg.length ks /\ Kin.At W5 As 14 (sg.map sgE) := at_gM hS5 (fun p hp => hp) (fun _ => rfl)
 obtain ⟨As, ks, hAs, hAtS⟩ := hsgA
 have x5 : Ext W5 (allBut W5 (List.map (·.1) ([] : List (Nat × Obj)))) b19 0 [.int .i64 no, .slice Ac e1.l.length kc, .slice none 0 0, .slice Ad m kd] := by
  have h5 : W.heap[b19]? = some (.cells ⟨[.int .i64 no, .slice Ac e1.l.length kc, .slice none 0 0, .slice Ad m kd]⟩ 38 (0, 0)) := (hV.own (b19, _) (by repeat constructor)).2
  have h6 := (hB5.block b19 (lt_of_heap h5)).trans h5
  refine ⟨⟨lt_of_heap h6, by simp⟩, fun i v hi => ?_⟩
  unfold World.cell?
  simp only [h6, Nat.zero_add]
  simpa using hi
 have hTb5 := hTb.later hb15
 have hg5 := hg1.later hb15
 have hRt5 := hRt.later hb45
 have hAtE5 := hAtE3.later hb35
 have hx3 := x5.at (i := 3) rfl
 obtain ⟨b', o', hb', hct5⟩ := hTb5.ar 0 (rvE v0) (by rw [List.getElem?_map, hv0]; rfl)
 cases hb'
 have y0 : Ext W5 (allBut W5 (List.map (·.1) ([] : List (Nat × Obj)))) bt (ot + 0 * 1) [.slice v0.A m v0.cap] := by
  have := hok5 (ext_of hct5).dom (ext_of hct5).cell
  simp only [rvE, hv0l] at this
  exact this
 have hb5 := fun (mem : List (Nat × Obj)) (W : World) (hW : SatW W5 (allBut W5 (List.map (·.1) ([] : List (Nat × Obj)))) noJ mem W) => (hW.same.below (Nat.le_refl _) fun k hk => ⟨hk, by simp⟩ : Below W5.heap.size W5 W)
 have hsgl := zok_len hZ hrl
 have h12 := fun (mem : List (Nat × Obj)) (W : World) (hW : SatW W5 (allBut W5 (List.map (·.1) ([] : List (Nat × Obj)))) noJ mem W) => check12_calls As ks sg W (hAtS.later (hb5 mem W hW)) hZ.ok (zok_incr hZ) (by omega)
 simp only [SgI.v]
 rw [hAs]
 clear hV hB5 hW5 hS5 h11 hb4 hb4' hC4 hR4 hRt hA1 hx1 hTb hg1 hAtE hAtE3 hAtG htw hgs
 repeat ((fail_if_success refine c_probe (id := 19) ?_); (fail_if_success refine c_probe1 (id := 19) ?_); first|refine lVa rfl rfl (by first|exact pEv rfl|fail) ?_|refine lNi ?_|refine xTh ?_|fail)
 refine cSq ?_
 repeat ((fail_if_success refine c_probe (id := 21) ?_); (fail_if_success refine c_probe1 (id := 21) ?_); first|refine q_call rfl rfl rfl (fun W hW => h12 _ W hW) ?_|refine cSq ?_|refine xTh ?_|refine c_false rfl ?_|refine cSk ?_|refine c_reads rfl (by decide +kernel) ?_|refine q_val rfl rfl (by first|exact pEv rfl|exact vL0 rfl (by assumption) rfl (by rfl)|exact v_index rfl rfl rfl rfl (by omega) (by omega) (by with_reducible first|exact idx6 _ _|fail)|fail) ?_|refine q_nil ?_|refine q_dec_f rfl rfl rfl rfl (by first|omega|fail) ?_|fail)
 clear h12 y0
 have hrne : rows ≠ [] := fun e => by rw [e] at hnn; simp at hnn; omega
 obtain ⟨bX, oX, hX, hXE⟩ := at_flat1 (fun v => ⟨_, rfl⟩) hTb5.ar hrne
 cases hX
 have hrfl : ((rows.map rvE).flatten).length = n * 1 := by rw [rvE_rows, hnn]
 refine cSq ?_
 refine c_new 0 4 [(0, .new 0), (2, .app 1 (some 0) 1), (5, .new 2), (6, .app 3 (some 1) 1)] [(0, [0]), (2, [1, 0]), (5, [2]), (6, [3, 1])] [(2, 0), (6, 1), (6, 2)] rfl (by decide +kernel) rfl ?_
 repeat (first|refine e_val rfl rfl rfl rfl (by first|exact pEv rfl|fail) ?_|refine e_new rfl rfl rfl rfl (by first|exact n_buildSlice rfl rfl rfl rfl (by rfl)|fail) (fun _ => ?_)|fail)
 refine e_app (xs := (rows.map rvE).flatten) (n := n) (e := 30) rfl rfl rfl rfl rfl (by decide) hrfl (by unfold maxLen; omega) rfl ?_ (fun bR cR rR hgR => ?_)
 ·exact a_append (xs := []) (rest := []) rfl rfl rfl rfl (news_ext hXE) (by repeat constructor) ⟨rfl, rfl, Nat.le_refl _, Nat.zero_le _⟩ hrfl (one1 (fun v => ⟨_, rfl, rfl⟩) rows) rfl (Nat.zero_add _) (by omega) (by unfold maxLen; omega)
 repeat (first|refine e_val rfl rfl rfl rfl (by first|exact pEv rfl|exact vL0 rfl (by assumption) rfl (by rfl)|fail) ?_|refine e_new rfl rfl rfl rfl (by first|exact n_buildSlice rfl rfl rfl rfl (by rfl)|fail) (fun _ => ?_)|fail)
 obtain ⟨n', hn'⟩ : ∃ k, n + 1 = k := ⟨_, rfl⟩
 have hufl : ((rows.map rvE).flatten ++ [Value.slice Ad m kd]).length = n' * 1 := by rw [List.length_append, hrfl, <- hn']; rfl
 refine e_app (xs := (rows.map rvE).flatten ++ [Value.slice Ad m kd]) (n := n') (e := 30) rfl rfl rfl rfl rfl (by decide) hufl (by unfold maxLen; omega) rfl ?_ (fun bU cU rU hgU => ?_)
 ·exact a_append (xs := (rows.map rvE).flatten) (rest := rR) (m := 1) rfl rfl rfl rfl (news_own (by repeat constructor)) (by repeat constructor) hgR rfl (fun v hv => by rw [List.mem_singleton.1 hv]; rfl) rfl hn' (by omega) (by unfold maxLen; omega)
 repeat ((fail_if_success refine c_probe (id := 22) ?_); (fail_if_success refine c_probe1 (id := 22) ?_); first|refine xTh ?_|refine e_val rfl rfl rfl rfl (by first|exact pEv rfl|fail) ?_|refine e_nil rfl ?_|fail)
 have hsh := shl_small n' (by omega)
 have hfull : (full n' : Nat) + 1 = 2 ^ n' := by unfold full; have := Nat.two_pow_pos n'; omega
 have hb32 : 2 ^ n' <= 2 ^ 5 := Nat.pow_le_pow_right (by omega) (by omega)
 obtain ⟨q, hq⟩ : ∃ q, 2 ^ n' = q := ⟨_, rfl⟩
 rw [hq] at hfull hsh hb32
 have e : ((q : Nat) : Int) - 1 = ((full n' : Nat) : Int) := by omega
 have hcll : e1.l.length <= 1000 := hT1.1.cll
 refine cSq ?_
 refine c_new 2 4 [(1, .new 2), (3, .app 3 (some 2) 1), (8, .new 4), (9, .app 5 (some 3) 1), (10, .cal (.tuple ⟨[.int .i64 (bc : Nat), .int .i64 0]⟩))] [(1, [2]), (3, [3, 2]), (8, [4]), (9, [5, 3]), (10, [])] [(3, 2), (9, 3), (9, 4), (10, 1), (10, 5)] rfl (by decide +kernel) rfl ?_
 repeat (first|refine e_val rfl rfl rfl rfl (by first|exact pEv rfl|fail) ?_|refine e_new rfl rfl rfl rfl (by first|exact n_buildSlice rfl rfl rfl rfl (by rfl)|fail) (fun _ => ?_)|fail)
 refine e_app (xs := (e1.l.map nE).flatten) (n := e1.l.length) (e := 3) rfl rfl rfl rfl rfl (by decide) (nE_rows e1.l) (by unfold maxLen; omega) rfl ?_ (fun bC cC rC hgC => ?_)
 ·by_cases hcl : e1.l = []
  ·rw [hcl]
   exact a_append0 (rest := []) rfl rfl rfl rfl (by repeat constructor) ⟨rfl, rfl, Nat.le_refl _, Nat.zero_le _⟩
  ·obtain ⟨bA, oA, hA', hE⟩ := at_flat1 (fun v => ⟨_, rfl⟩) hAtE5 hcl
   subst hA'
   exact a_append (xs := []) (rest := []) rfl rfl rfl rfl (news_ext hE) (by repeat constructor) ⟨rfl, rfl, Nat.le_refl _, Nat.zero_le _⟩ (nE_rows e1.l) (one1 (fun v => ⟨_, rfl, rfl⟩) e1.l) rfl (Nat.zero_add _) (by omega) (by unfold maxLen; omega)
 repeat (first|refine e_val rfl rfl rfl rfl (v_shlA rfl rfl (by omega) hsh) ?_|refine e_val rfl rfl rfl rfl (by first|exact v_sub rfl rfl (by omega) (by omega)|exact pEv rfl|fail) ?_|refine e_new rfl rfl rfl rfl (by first|exact n_buildSlice rfl rfl rfl rfl (by rfl)|fail) (fun _ => ?_)|fail)
 rw [e]
 have hcfl : ((e1.l.map nE).flatten ++ [Value.int .i64 (full n' : Nat)]).length = (e1.l.length + 1) * 1 := by rw [List.length_append, nE_rows]; show e1.l.length * 1 + 1 = _; omega
 refine e_app (xs := (e1.l.map nE).flatten ++ [Value.int .i64 (full n' : Nat)]) (n := e1.l.length + 1) (e := 3) rfl rfl rfl rfl rfl (by decide) hcfl (by unfold maxLen; omega) rfl ?_ (fun bV cV rV hgV => ?_)
 ·exact a_append (xs := (e1.l.map nE).flatten) (rest := rC) (m := 1) rfl rfl rfl rfl (news_own (by repeat constructor)) (by repeat constructor) hgC rfl (fun v hv => by rw [List.mem_singleton.1 hv]; rfl) rfl rfl (by omega) (by unfold maxLen; omega)
 have hlv1 : ∀ i ∈ (tre n e1.l).lv, i < rows.length := by rw [hnn]; exact hlv e1.l htr1
 obtain ⟨u, hu⟩ : ∃ u : RV, u = ⟨Ad, kd, rd⟩ := ⟨_, rfl⟩
 have hul : u.l = rdL rows (tre n e1.l) m := by rw [hu, hrd]
 have hw1 := csum_wide hT hlv1 hul m (Nat.le_refl _)
 have hOw := hT.wide hlv1 hul (by omega) (by omega)
 have hTw := okTr_wide n1 n4 htr1
 have hun : (rows ++ [u]).length = n' := by rw [List.length_append, hnn]; exact hn'
 have hcn : (wCl n e1.l).length = e1.l.length + 1 := by unfold wCl; rw [List.length_append]; rfl
 rw [hnn, hv1] at hw1
 rw [hn'] at hTw
 have hf1 : ((rows ++ [u]).map rvE).flatten = (rows.map rvE).flatten ++ [Value.slice Ad m kd] := by rw [List.map_append, List.flatten_append, hu, <- hrl]; rfl
 have hf2 : ((wCl n e1.l).map nE).flatten = (e1.l.map nE).flatten ++ [Value.int .i64 (full n' : Nat)] := by unfold wCl; rw [List.map_append, List.flatten_append, hn']; rfl
 have hw1' : csum (rows ++ [u]) (wTr n e1.l) m = bc := hw1
 have hau : ∀ v ∈ rows ++ [u], ∀ W, Below W5.heap.size W5 W -> Kin.At W v.A 1 (v.l.map inE) := fun v hv W hB => by
  rcases List.mem_append.1 hv with hv | hv
  ·exact (hTb5.row v hv).later hB
  ·rw [List.mem_singleton.1 hv, hu]; exact hRt5.later hB
 refine e_call rfl rfl rfl rfl rfl (fun W hW => ?_) ?_
 ·have hB := hb5 _ W hW
  have h9' := Cost9_calls (some ⟨bU, 0, none⟩) cU (rows ++ [u]) m (some ⟨bV, 0, none⟩) cV (wCl n e1.l) (wTr n e1.l) W
   ⟨hW.rows (b := bU) (by repeat constructor) (rest := rU) (by rw [hf1]) (fun r hr => by obtain ⟨v, _, rfl⟩ := List.mem_map.1 hr; rfl), fun v hv => hau v hv W hB⟩
   (hW.rows (b := bV) (by repeat constructor) (rest := rV) (by rw [hf2]) (fun r hr => by obtain ⟨v, _, rfl⟩ := List.mem_map.1 hr; rfl)) (hg5.later hB) hOw (by rw [hun]; exact hTw.1) (by rw [hun]; exact hTw.2)
  rw [hun, hcn, hw1'] at h9'
  exact h9'
 clear hw1 hw1' hOw hTw hun hcn hf1 hf2 hau
 repeat ((fail_if_success refine c_probe (id := 25) ?_); (fail_if_success refine c_probe1 (id := 25) ?_); first|refine lVa rfl rfl (by first|exact pEv rfl|fail) ?_|refine lNi ?_|refine cRg ?_|refine cSq ?_|refine xTh ?_|refine c_dec_f rfl (by first|omega|fail) ?_|refine cSk ?_|refine e_val rfl rfl rfl rfl (by first|exact pEv rfl|fail) ?_|refine e_nil rfl ?_|fail)
 repeat (first|refine lVa rfl rfl (by first|exact pEv rfl|fail) ?_|refine lNi ?_|refine cRg ?_|refine cSq ?_|refine xTh ?_|refine r_makeMap rfl rfl (fun _ => ?_)|refine r_alloc rfl rfl rfl (by first|exact aggL|fail) (fun _ => ?_)|refine rSt rfl rfl rfl rfl rfl rfl rfl (by repeat constructor) (by rfl) ?_|refine cBl ?_|fail)
 rename_i bm bw
 have hsgm : sg.length <= 64 := by omega
 have hsgok := hZ.ok
 clear hq1l hq2l hv2
 refine c_loop (ι := HSt) (fun s => s.k <= sg.length /\ gOK rdE 15 ((sg.take s.k).map rdZ) s.c s.r) (fun s => [(9, .slice (some ⟨bt, ot, none⟩) n tc), (19, .pointer (some ⟨b19, 0, none⟩)), (22, .map (some bm)), (23, .pointer (some ⟨bw, 0, none⟩)), (202, .slice As sg.length ks), (203, .int .i64 sg.length), (204, .int .i64 s.k)])
  (fun s => (bw, .cells ⟨[.int .i64 1, .int .i64 0, gSl ((sg.take s.k).map rdZ) s.b s.c]⟩ 48 (0, 0)) :: (bm, imO (hvL (sg.take s.k))) :: gM rdE 55 ((sg.take s.k).map rdZ) s.b s.r) (fun s => sg.length - s.k) ⟨0, 0, 0, []⟩ ⟨Nat.zero_le _, fun h => absurd rfl h⟩ (by repeat (first|exact .nil|refine .cons rfl (by first|rfl|(congr 1; done)|exact congrArg _ (by omega)|(simp; done)) ?_)) (by repeat (first|exact .nil|refine .keep (by first|rfl|assumption) ?_|refine .drop ?_|exact MSub.refl _)) ?_
 rintro ⟨k, br, cr, rr⟩ ⟨hk, hgr⟩
 simp only at hk hgr ⊢
 have hgr' := fun (_ : Unit) => hgr
 clear hgr
 by_cases hlt : k < sg.length
 ·obtain ⟨z, hz⟩ : ∃ s, sg[k]? = some s := ⟨_, List.getElem?_eq_getElem hlt⟩
  obtain ⟨bq, oq, hAq, hcq⟩ := hAtS k (sgE z) (by rw [List.getElem?_map, hz]; rfl)
  have y1 := hok5 (ext_of hcq).dom (ext_of hcq).cell
  subst hAq
  obtain ⟨hzf, hzw⟩ := hsgok z (List.mem_of_getElem? hz)
  have hcode : ∀ W : World, Calls Tryz.prog 13 ⟨[.agg ⟨sgE z⟩]⟩ W fun e w' => e = .returned (.tuple ⟨[.int .i64 (codeV z), .int .i64 0]⟩) /\ Below W.heap.size W w' := fun W => by
   have := Code_calls z W
   rw [codA_t (okS_of_form hzf)] at this
   exact this
  have htk : (sg.take (k + 1)).map rdZ = (sg.take k).map rdZ ++ [rdZ z] := by rw [List.take_add_one, hz, List.map_append]; rfl
  have hxl : ((sg.take k).map rdZ).length <= 64 := by rw [List.length_map, List.length_take]; omega
  repeat (first|refine lVa rfl rfl (by first|exact pEv rfl|exact vLd rfl (by repeat constructor) rfl (by rfl)|exact vL0 rfl (by assumption) rfl (by rfl)|exact v_index rfl rfl rfl rfl (by omega) (by omega) (by with_reducible first|exact idx4 _ _ _|fail)|fail) ?_|refine lNi ?_|refine cRg ?_|refine cSq ?_|refine xTh ?_|refine r_alloc rfl rfl rfl (by first|exact aggL|fail) (fun _ => ?_)|refine rSt rfl rfl rfl rfl rfl rfl rfl (by repeat constructor) (by rfl) ?_|refine c_dec_t rfl (by first|omega|fail) ?_|refine cBl ?_|refine cSk ?_|fail)
  refine r_call rfl rfl rfl (fun W hW => hcode W) ?_
  repeat ((fail_if_success refine c_probe (id := 35) ?_); (fail_if_success refine c_probe1 (id := 35) ?_); first|refine l_do rfl (d_imPut (k := z.id) (v := .int .i64 (codeV z)) rfl rfl rfl rfl rfl (by repeat constructor)) ?_|refine lVa rfl rfl (by first|exact pEv rfl|exact vLd rfl (by repeat constructor) rfl (by rfl)|fail) ?_|refine lNi ?_|refine cRg ?_|refine cSq ?_|refine xTh ?_|refine c_false rfl ?_|refine cSk ?_|fail)
  repeat (first|refine lVa rfl rfl (by first|exact pEv rfl|exact vLd rfl (by repeat constructor) rfl (by rfl)|exact v_build rfl rfl (by rfl)|fail) ?_|refine lNi ?_|refine cRg ?_|refine cSq ?_|refine xTh ?_|refine rSt rfl rfl rfl rfl rfl rfl rfl (by repeat constructor) (by rfl) ?_|refine r_buildSlice rfl rfl rfl rfl rfl rfl (by rfl) (fun _ => ?_)|fail)
  refine r_appendZ (f := rdE) (e := 55) (sz := 15) (xs := (sg.take k).map rdZ) (ys := [rdZ z]) (m := 1) rfl rfl rfl rfl rfl rfl rfl (.inr ⟨_, 0, rfl, news_own (by repeat constructor)⟩) (perm_tl (X := [_, _, _, _]) (G := [])) (hgr' ()) rdE_rows rfl rfl (by omega) (by unfold maxLen; omega) (fun b8 c8 r8 hg8 => ?_)
  have hg8' := fun (_ : Unit) => hg8
  clear hg8
  refine l_perm List.perm_append_comm ?_
  simp only [List.cons_append, List.nil_append, List.append_nil]
  have hne' : (sg.take k).map rdZ ++ [rdZ z] ≠ [] := by simp
  rw [gSl_ne hne']
  repeat (first|refine lVa rfl rfl (by first|exact v_add rfl rfl (by omega) (by omega)|exact pEv rfl|fail) ?_|refine lNi ?_|refine cRg ?_|refine xTh ?_|refine rSt rfl rfl rfl rfl rfl rfl rfl (by repeat constructor) (by rfl) ?_|refine x_block ?_|fail)
  refine x_back ⟨k + 1, b8, c8, r8⟩ ⟨hlt, by rw [htk]; exact hg8' ()⟩ (by simp only; omega) (by repeat (first|exact .nil|refine .cons rfl (by first|rfl|(congr 1; done)|exact congrArg _ (by omega)|(simp; done)) ?_)) ?_
  simp only
  rw [htk, hvL_take hz, gSl_ne hne']
  exact .drop (.drop (.keep rfl (.keep rfl (.refl _))))
 have hke : k = sg.length := by omega
 subst hke
 rw [List.take_length]
 rw [List.take_length] at hgr'
 repeat ((fail_if_success refine c_probe (id := 38) ?_); (fail_if_success refine c_probe1 (id := 38) ?_); first|refine lVa rfl rfl (by first|exact pEv rfl|fail) ?_|refine lNi ?_|refine cRg ?_|refine cSq ?_|refine xTh ?_|refine c_dec_f rfl (by first|omega|fail) ?_|refine c_exit ?_|refine xTe ?_|refine xBs ?_|fail)
 refine c_keep [9, 19, 22, 23] rfl ?_
 exact te_tail (t := tre n e1.l) hT hlv1 hnn n1 n4 hm12 hv0 hrd hrl hTb5 hRt5 hx3 hZ (hb01.trans (hb15.mono hb01.size))
end R41
end Go.Proofs
