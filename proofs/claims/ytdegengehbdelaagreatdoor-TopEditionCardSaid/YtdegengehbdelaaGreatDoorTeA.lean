/- Editions: signs, plain. -/
import Derived.Test.YtdegengehbdelaaGreatDoorClTc
import Derived.Test.YtdegengehbdelaaGreatDoorClO
set_option linter.unusedSectionVars false
set_option linter.unusedVariables false
set_option linter.unusedSimpArgs false
namespace Go.Proofs
open Go.RowKit Go.Kin Go.Kin.Se Go.Kin.Cl
namespace R41
/-- how many readings of a row have been passed -/
def cnt (l : List Int) (k : Nat) : Nat := (nz (l.take k)).length
theorem cnt_0 (l : List Int) : cnt l 0 = 0 := rfl
theorem nz_take' {l : List Int} {k : Nat} {c : Int} (h : l[k]? = some c) : nz (l.take (k + 1)) = nz (l.take k) ++ (if c ≠ 0 then [c] else []) := by
 rw [List.take_add_one, h]
 show nz (l.take k ++ [c]) = _
 rw [nz_app]
 congr 1
 unfold nz
 by_cases hc : c = 0 <;> simp [hc]
theorem cnt_z {l : List Int} {k : Nat} (h : l[k]? = some 0) : cnt l (k + 1) = cnt l k := by
 unfold cnt
 rw [nz_take' h]; simp
theorem cnt_s {l : List Int} {k : Nat} {c : Int} (h : l[k]? = some c) (hc : c ≠ 0) : cnt l (k + 1) = cnt l k + 1 /\ (nz l)[cnt l k]? = some c := by
 have h1 := nz_take' h
 rw [if_pos hc] at h1
 refine ⟨by unfold cnt; rw [h1, List.length_append]; rfl, ?_⟩
 have h2 : nz l = nz (l.take (k + 1)) ++ nz (l.drop (k + 1)) := by rw [<- nz_app, List.take_append_drop]
 rw [h2, h1, List.append_assoc, List.getElem?_append_right (by unfold cnt; exact Nat.le_refl _)]
 unfold cnt
 rw [Nat.sub_self]; rfl
/-- a valid reading that is not lost: its sign, its code -/
theorem read_f {r : Rd} (h : readB r = true) (hl : r.lost = false) : formB r.s = true /\ okS r.s = true /\ cod r = codeV r.s /\ cod r ≠ lost /\ unp (cod r) = bare r.s := by
 obtain ⟨lo, s⟩ := r
 simp only at hl
 subst hl
 rw [readB_f, Bool.and_eq_true] at h
 have hok := okS_of_form h.1
 have hb := codeV_bd hok
 have hc : cod ⟨false, s⟩ = codeV s := by rw [cod_f, codA_t hok]
 refine ⟨h.1, hok, hc, ?_, by rw [hc]; exact unp_code hok⟩
 rw [hc]
 have : lost = 8589934592 := rfl
 omega
theorem read_t {r : Rd} (hl : r.lost = true) : cod r = lost := by
 unfold cod
 rw [if_pos hl]; rfl
/-- what is known of witnesses, their table and an edition -/
structure SgOK (ws : List Wi) (rows : List RV) (rd : List Int) (m : Nat) : Prop where
 n : rows.length = ws.length
 len : ∀ v ∈ rows, v.l.length = m
 rdl : rd.length = m
 nz : ∀ (i : Nat) (v : RV) (x : Wi), rows[i]? = some v -> ws[i]? = some x -> nz v.l = cds x
 ok : ∀ x ∈ ws, (∀ r ∈ x.rs, readB r = true) /\ x.rs.length <= 64
 cov : ∀ (k : Nat) (c : Int), rd[k]? = some c -> c ≠ 0 -> c ≠ lost /\ ∃ (i : Nat) (v : RV), rows[i]? = some v /\ v.l[k]? = some c
theorem SgOK.at {ws : List Wi} {rows : List RV} {rd : List Int} {m : Nat} (h : SgOK ws rows rd m) {i k : Nat} {v : RV} {x : Wi} {c : Int} (hv : rows[i]? = some v) (hx : ws[i]? = some x) (hc : v.l[k]? = some c) (h0 : c ≠ 0) :
  cnt v.l (k + 1) = cnt v.l k + 1 /\ ∃ r, x.rs[cnt v.l k]? = some r /\ cod r = c /\ readB r = true := by
 obtain ⟨h1, h2⟩ := cnt_s hc h0
 rw [h.nz i v x hv hx] at h2
 unfold cds at h2
 rw [List.getElem?_map] at h2
 obtain ⟨r, h3, h4⟩ := Option.map_eq_some_iff.1 h2
 exact ⟨h1, r, h3, h4, (h.ok x (List.mem_of_getElem? hx)).1 r (List.mem_of_getElem? h3)⟩
theorem SgOK.cnt_le {ws : List Wi} {rows : List RV} {rd : List Int} {m : Nat} (h : SgOK ws rows rd m) {i : Nat} {v : RV} {x : Wi} (hv : rows[i]? = some v) (hx : ws[i]? = some x) (k : Nat) : cnt v.l k <= 64 := by
 have h1 : (Cl.nz v.l).length <= 64 := by
  rw [h.nz i v x hv hx, cds_len]
  exact (h.ok x (List.mem_of_getElem? hx)).2
 have h2 : Cl.nz v.l = Cl.nz (v.l.take k) ++ Cl.nz (v.l.drop k) := by rw [<- nz_app, List.take_append_drop]
 rw [h2, List.length_append] at h1
 unfold cnt
 omega
/-- the sign of an edition at a locus: its code, and what else is taken from a reading -/
def zS (c : Int) (k : Nat) (r : Sg) (mk : Int) : Sg := { unp c with id := k, bar := r.bar, mark := mk, fn := r.fn, fd := r.fd, tn := r.tn, td := r.td }
/-- the signs of an edition up to a locus -/
structure ZOK (rd : List Int) (k : Nat) (sgs : List Sg) : Prop where
 ls : sgs.map (fun s => (s.id, codeV s)) = ((List.range k).filter fun j : Nat => decide (rd.getD j 0 ≠ 0)).map fun j : Nat => ((j : Int), rd.getD j 0)
 ok : ∀ s ∈ sgs, formB s = true /\ s.wf
theorem ZOK.skip {rd : List Int} {k : Nat} {sgs : List Sg} (h : ZOK rd k sgs) (h0 : rd.getD k 0 = 0) : ZOK rd (k + 1) sgs := by
 refine ⟨?_, h.ok⟩
 rw [h.ls, List.range_succ, List.filter_append, List.map_append]
 rw [List.getD_eq_getElem?_getD] at h0
 simp [h0]
theorem ZOK.snoc {rd : List Int} {k : Nat} {sgs : List Sg} (h : ZOK rd k sgs) {c : Int} {r : Sg} {mk : Int} (hc : rd.getD k 0 = c) (h0 : c ≠ 0) (hk : k <= 1000) (hr : formB r = true) (hw : r.wf) (hu : unp c = bare r) (he : c = codeV r) (hm : 1 <= mk /\ mk <= 3) : ZOK rd (k + 1) (sgs ++ [zS c k r mk]) := by
 have hz : zS c k r mk = { r with id := k, mark := mk } := by
  unfold zS
  rw [hu]; rfl
 refine ⟨?_, fun s hs => ?_⟩
 ·rw [List.map_append, h.ls, List.range_succ, List.filter_append, List.map_append]
  congr 1
  simp only [List.map_cons, List.map_nil]
  rw [List.filter_cons, if_pos (by rw [hc]; exact decide_eq_true h0), List.filter_nil, List.map_cons, List.map_nil, hz, hc, he]
  rfl
 ·rcases List.mem_append.1 hs with hs | hs
  ·exact h.ok s hs
  ·rw [List.mem_singleton.1 hs, hz]
   refine ⟨decide_eq_true ?_, hw.1, hw.2, hw.3, hw.4⟩
   have hf : formP r := of_decide_eq_true hr
   obtain ⟨f0, f1, f2, f3, f4, f5⟩ := hf
   exact ⟨⟨by show (0 : Int) <= (k : Int); omega, by show (k : Int) <= 1048576; omega⟩, f1, f2, f3, hm, f5⟩
theorem frQ_gnd {w W1 W : World} {mem : List (Nat × Obj)} (h1 : Same (base w) w W1) (h : SatW W1 (allBut W1 (List.map (·.1) ([] : List (Nat × Obj)))) noJ mem W) : SatW w (allBut w (List.map (·.1) ([] : List (Nat × Obj)))) noJ mem W :=
 ⟨(h1.mono fun b hb => hb.1).trans (h.same.mono fun b hb => ⟨Nat.lt_of_lt_of_le hb.1 h1.size, by simp⟩), fun b hb => hb.1, h.nodup, fun p hp => ⟨fun hb => (h.own p hp).1 ⟨Nat.lt_of_lt_of_le hb.1 h1.size, by simp⟩, (h.own p hp).2⟩, closed_noJ, trivial⟩
end R41
end Go.Proofs

set_option maxRecDepth 100000
set_option maxHeartbeats 400000000
namespace Go.Proofs
open Go.RowKit Go.Kin Go.Kin.Se Go.Kin.Cl
namespace R41
theorem check12_calls (A : Option Addr) (cap : Nat) (l : List Sg) (w : World) (hA : Kin.At w A 14 (l.map sgE)) (hf : ∀ s ∈ l, formB s = true /\ s.wf) (hi : l.Pairwise fun a b => a.id < b.id) (hl : l.length <= 4096) :
  Calls Tryz.prog 12 ⟨[.slice A l.length cap]⟩ w fun e w' => e = .returned (.int .i64 0) /\ Below w.heap.size w w' := by
 refine fEn Tryz.func12 rfl Tryz.ntmps12 rfl rfl (sWn w) ?_
 repeat (first|refine lVa rfl rfl (by first|exact pEv rfl|fail) ?_|refine lNi ?_|refine cRg ?_|refine cSq ?_|refine xTh ?_|refine c_dec_f rfl (by first|omega|exact fun h => h rfl|fail) ?_|refine cBl ?_|refine cSk ?_|fail)
 refine c_loop (ι := Nat) (fun k => k <= l.length) (fun k => [(0, .slice A l.length cap), (8, .slice A l.length cap), (9, .int .i64 l.length), (10, .int .i64 k)]) (fun _ => []) (fun k => l.length - k) 0 (Nat.zero_le _) (by repeat (first|exact .nil|refine .cons rfl (by first|rfl|(congr 1; done)|exact congrArg _ (by omega)|(simp; done)) ?_)) (by repeat (first|exact .nil|refine .keep (by first|rfl|assumption) ?_|refine .drop ?_|exact MSub.refl _)) ?_
 intro k hk
 by_cases hlt : k < l.length
 rotate_left
 ·have hke : k = l.length := by omega
  subst hke
  repeat (first|refine lVa rfl rfl (by first|exact pEv rfl|fail) ?_|refine lNi ?_|refine cRg ?_|refine cSq ?_|refine xTh ?_|refine c_dec_f rfl (by first|omega|fail) ?_|refine c_ret ?_|refine c_exit ?_|refine xTe ?_|refine xBs ?_|fail)
  exact x_ret rfl rfl (by repeat constructor) rfl (fun W hW => ⟨rfl, hW.below⟩)
 obtain ⟨s, hs⟩ : ∃ s, l[k]? = some s := ⟨_, List.getElem?_eq_getElem hlt⟩
 obtain ⟨b, o, rfl, hc⟩ := hA k (sgE s) (by rw [List.getElem?_map, hs]; rfl)
 have y1 := ext_of hc
 obtain ⟨hf1, hf2⟩ := hf s (List.mem_of_getElem? hs)
 have hform := fun W => form_calls s W hf2
 rw [hf1] at hform
 by_cases hk0 : k = 0
 ·subst hk0
  repeat (first|refine lVa rfl rfl (by first|exact pEv rfl|exact vL0 rfl (by assumption) rfl (by rfl)|exact v_index rfl rfl rfl rfl (by omega) (by omega) (by with_reducible first|exact idx4 _ _ _|fail)|fail) ?_|refine lNi ?_|refine cRg ?_|refine cSq ?_|refine xTh ?_|refine r_alloc rfl rfl rfl (by first|exact aggL|fail) (fun _ => ?_)|refine rSt rfl rfl rfl rfl rfl rfl rfl (by repeat constructor) (by rfl) ?_|refine c_dec_t rfl (by first|omega|fail) ?_|refine cBl ?_|refine cSk ?_|refine c_reads rfl (by decide +kernel) ?_|refine q_val rfl rfl (by first|exact vLd rfl (by repeat constructor) rfl (by rfl)|fail) ?_|fail)
  refine q_call rfl rfl rfl (fun W _ => hform W) ?_
  repeat (first|refine lVa rfl rfl (by first|exact v_add rfl rfl (by omega) (by omega)|exact pEv rfl|fail) ?_|refine lNi ?_|refine cRg ?_|refine xTh ?_|refine c_false rfl ?_|refine cSk ?_|refine x_block ?_|refine q_val rfl rfl (by first|exact pEv rfl|fail) ?_|refine q_nil ?_|refine q_skip rfl rfl ?_|fail)
  exact x_back (0 + 1) (by omega) (by omega) (by repeat (first|exact .nil|refine .cons rfl (by first|rfl|(congr 1; done)|exact congrArg _ (by omega)|(simp; done)) ?_)) (by repeat (first|exact .nil|refine .keep (by first|rfl|assumption) ?_|refine .drop ?_|exact MSub.refl _))
 ·obtain ⟨j, rfl⟩ : ∃ j, k = j + 1 := ⟨k - 1, by omega⟩
  obtain ⟨s', hs'⟩ : ∃ s, l[j]? = some s := ⟨_, List.getElem?_eq_getElem (by omega)⟩
  obtain ⟨_, _, e2, hc'⟩ := hA j (sgE s') (by rw [List.getElem?_map, hs']; rfl)
  cases e2
  have y2 := ext_of hc'
  have hlt2 : s'.id < s.id := by
   obtain ⟨h1, e1⟩ := List.getElem?_eq_some_iff.1 hs'
   obtain ⟨h3, e3⟩ := List.getElem?_eq_some_iff.1 hs
   rw [<- e1, <- e3]
   exact List.pairwise_iff_getElem.1 hi j (j + 1) h1 h3 (by omega)
  have e4 : o + j * 14 = o + ((((j + 1 : Nat) : Int)) - 1).toNat * 14 := by rw [show (((j + 1 : Nat) : Int) - 1).toNat = j by omega]
  rw [e4] at y2
  repeat (first|refine lVa rfl rfl (by first|exact pEv rfl|exact vL0 rfl (by assumption) rfl (by rfl)|exact v_index rfl rfl rfl rfl (by omega) (by omega) (by with_reducible first|exact idx4 _ _ _|fail)|fail) ?_|refine lNi ?_|refine cRg ?_|refine cSq ?_|refine xTh ?_|refine r_alloc rfl rfl rfl (by first|exact aggL|fail) (fun _ => ?_)|refine rSt rfl rfl rfl rfl rfl rfl rfl (by repeat constructor) (by rfl) ?_|refine c_dec_t rfl (by first|omega|fail) ?_|refine cBl ?_|refine cSk ?_|refine c_reads rfl (by decide +kernel) ?_|refine q_val rfl rfl (by first|exact vLd rfl (by repeat constructor) rfl (by rfl)|fail) ?_|fail)
  refine q_call rfl rfl rfl (fun W _ => hform W) ?_
  repeat (first|refine lVa rfl rfl (by first|exact v_add rfl rfl (by omega) (by omega)|exact pEv rfl|fail) ?_|refine lNi ?_|refine cRg ?_|refine xTh ?_|refine c_dec_f rfl (by first|omega|fail) ?_|refine cSk ?_|refine x_block ?_|refine q_val rfl rfl (by first|exact v_sub rfl rfl (by omega) (by omega)|exact pEv rfl|exact vLd rfl (by repeat constructor) rfl (by rfl)|exact vL0 rfl (by assumption) rfl (by rfl)|exact v_index rfl rfl rfl rfl (by omega) (by omega) (by with_reducible first|exact idx8 _ _ _|fail)|fail) ?_|refine q_nil ?_|refine q_dec_t rfl rfl rfl rfl (by first|omega|fail) ?_|fail)
  exact x_back (j + 1 + 1) (by omega) (by omega) (by repeat (first|exact .nil|refine .cons rfl (by first|rfl|(congr 1; done)|exact congrArg _ (by omega)|(simp; done)) ?_)) (by repeat (first|exact .nil|refine .keep (by first|rfl|assumption) ?_|refine .drop ?_|exact MSub.refl _))
theorem few5_calls (A : Option Addr) (cap : Nat) (ws : List Wi) (w : World) (hA : Kin.At w A 3 (ws.map wiE)) (hl : ws.length <= 9223372036854775807) (hx : ∀ x ∈ ws, x.rs.length <= 9223372036854775807) :
  Calls Tryz.prog 5 ⟨[.slice A ws.length cap]⟩ w fun e w' => e = .returned (.bool (decide (ws.length <= 5 /\ ∀ x ∈ ws, x.rs.length <= 8))) /\ Below w.heap.size w w' := by
 refine fEn Tryz.func5 rfl Tryz.ntmps5 rfl rfl (sWn w) ?_
 by_cases h5 : ws.length <= 5
 rotate_left
 ·rw [decide_eq_false (fun h => h5 h.1)]
  repeat (first|refine lVa rfl rfl (by first|exact pEv rfl|fail) ?_|refine lNi ?_|refine cRg ?_|refine cSq ?_|refine xTh ?_|refine c_dec_t rfl (by first|omega|fail) ?_|refine c_ret ?_|refine xTr ?_|fail)
  exact x_ret rfl rfl (by repeat constructor) rfl (fun W hW => ⟨rfl, hW.below⟩)
 repeat (first|refine lVa rfl rfl (by first|exact pEv rfl|fail) ?_|refine lNi ?_|refine cRg ?_|refine cSq ?_|refine xTh ?_|refine c_dec_f rfl (by first|omega|exact fun h => h rfl|fail) ?_|refine cBl ?_|refine cSk ?_|fail)
 refine c_loop (ι := Nat) (fun k => k <= ws.length /\ ∀ x ∈ ws.take k, x.rs.length <= 8) (fun k => [(0, .slice A ws.length cap), (3, .int .i64 k)]) (fun _ => []) (fun k => ws.length - k) 0 ⟨Nat.zero_le _, fun x hx => by simp at hx⟩ (by repeat (first|exact .nil|refine .cons rfl (by first|rfl|(congr 1; done)|exact congrArg _ (by omega)|(simp; done)) ?_)) (by repeat (first|exact .nil|refine .keep (by first|rfl|assumption) ?_|refine .drop ?_|exact MSub.refl _)) ?_
 rintro k ⟨hk, hF⟩
 by_cases hlt : k < ws.length
 rotate_left
 ·have hke : k = ws.length := by omega
  subst hke
  rw [List.take_length] at hF
  rw [decide_eq_true (⟨h5, hF⟩ : ws.length <= 5 /\ ∀ x ∈ ws, x.rs.length <= 8)]
  clear hF
  repeat (first|refine lVa rfl rfl (by first|exact pEv rfl|fail) ?_|refine lNi ?_|refine cRg ?_|refine cSq ?_|refine xTh ?_|refine c_dec_f rfl (by first|omega|fail) ?_|refine c_ret ?_|refine c_exit ?_|refine xTe ?_|refine xBs ?_|fail)
  exact x_ret rfl rfl (by repeat constructor) rfl (fun W hW => ⟨rfl, hW.below⟩)
 obtain ⟨x, hwx⟩ : ∃ x, ws[k]? = some x := ⟨_, List.getElem?_eq_getElem hlt⟩
 have hxm := List.mem_of_getElem? hwx
 have hxl := hx x hxm
 obtain ⟨b, o, rfl, hc⟩ := hA k (wiE x) (by rw [List.getElem?_map, hwx]; rfl)
 have y1 := ext_of hc
 have hF' := fun (_ : Unit) => hF
 clear hF
 by_cases h8 : x.rs.length <= 8
 ·repeat (first|refine lVa rfl rfl (by first|exact v_add rfl rfl (by omega) (by omega)|exact pEv rfl|exact vLe rfl (by assumption) rfl (by rfl)|exact v_index rfl rfl rfl rfl (by omega) (by omega) (by with_reducible first|exact idx4 _ _ _|fail)|fail) ?_|refine lNi ?_|refine cRg ?_|refine cSq ?_|refine xTh ?_|refine c_dec_t rfl (by first|omega|fail) ?_|refine c_dec_f rfl (by first|omega|exact fun h => h rfl|fail) ?_|refine cBl ?_|refine cSk ?_|refine x_block ?_|fail)
  refine x_back (k + 1) ⟨hlt, fun y hy => ?_⟩ (by omega) (by repeat (first|exact .nil|refine .cons rfl (by first|rfl|(congr 1; done)|exact congrArg _ (by omega)|(simp; done)) ?_)) (by repeat (first|exact .nil|refine .keep (by first|rfl|assumption) ?_|refine .drop ?_|exact MSub.refl _))
  rw [List.take_add_one, hwx] at hy
  rcases List.mem_append.1 hy with hy | hy
  ·exact hF' () y hy
  ·simp only [Option.toList_some, List.mem_singleton] at hy
   rw [hy]; exact h8
 ·rw [decide_eq_false (fun h => h8 (h.2 x hxm))]
  repeat (first|refine lVa rfl rfl (by first|exact pEv rfl|exact vLe rfl (by assumption) rfl (by rfl)|exact v_index rfl rfl rfl rfl (by omega) (by omega) (by with_reducible first|exact idx4 _ _ _|fail)|fail) ?_|refine lNi ?_|refine cRg ?_|refine cSq ?_|refine xTh ?_|refine c_dec_t rfl (by first|omega|fail) ?_|refine cBl ?_|refine cSk ?_|refine c_ret ?_|refine xTr ?_|refine xBr ?_|fail)
  exact x_ret rfl rfl (by repeat constructor) rfl (fun W hW => ⟨rfl, hW.below⟩)
end R41
end Go.Proofs

namespace Go.Proofs
open Go.RowKit Go.Kin Go.Kin.Se Go.Kin.Cl
namespace R41
/-- a table that is right -/
structure TbOK (ws : List Wi) (rows : List RV) (m : Nat) : Prop where
 n : rows.length = ws.length
 len : ∀ v ∈ rows, v.l.length = m
 nz : ∀ (i : Nat) (v : RV) (x : Wi), rows[i]? = some v -> ws[i]? = some x -> nz v.l = cds x
 ok : ∀ x ∈ ws, (∀ r ∈ x.rs, readB r = true) /\ x.rs.length <= 64
 cod : ∀ v ∈ rows, ∀ s ∈ v.l, 0 <= s /\ s <= lost
theorem tbOK_of {ws : List Wi} {rows : List RV} (h0 : tabE ws = 0) (hne : ws ≠ []) (hr : rows.map RV.l = tabR ws) : TbOK ws rows (lociN (lsW ws)) := by
 have hc : chkW ws = 0 := by
  unfold tabE at h0
  by_cases h : chkW ws = 0
  ·exact h
  ·rw [if_neg h] at h0; exact absurd h0 h
 have h256 : lociN (lsW ws) <= 256 := by
  unfold tabE at h0
  rw [if_pos hc, if_neg hne] at h0
  by_cases h : 256 < lociN (lsW ws)
  ·rw [if_pos h] at h0; cases h0
  ·omega
 have htr := (tab_ok hc hne h256).2
 rw [htr] at hr
 have hn : rows.length = ws.length := by have := congrArg List.length hr; rw [List.length_map, List.length_map, List.length_range] at this; exact this
 have hat : ∀ (i : Nat) (v : RV), rows[i]? = some v -> v.l = rowI (lsW ws) i /\ i < ws.length := fun i v hv => by
  have hi : i < ws.length := by have := (List.getElem?_eq_some_iff.1 hv).1; omega
  have h1 : (rows.map RV.l)[i]? = some v.l := by rw [List.getElem?_map, hv]; rfl
  rw [hr, List.getElem?_map, List.getElem?_range hi] at h1
  exact ⟨(Option.some.inj h1).symm, hi⟩
 have hlsl : (lsW ws).length = ws.length := List.length_map ..
 have hnz : ∀ (i : Nat) (v : RV) (x : Wi), rows[i]? = some v -> ws[i]? = some x -> Cl.nz v.l = cds x := fun i v x hv hx => by
  have hli := li_lsW hx
  rw [(hat i v hv).1, rowI_nz (fun c hcm => by rw [hli] at hcm; exact ((cds_in hc (List.mem_of_getElem? hx)).2.1 c hcm).1), hli]
 have hall := (chkW_0 hc).2.2
 refine ⟨hn, fun v hv => ?_, hnz, fun x hx => ⟨fun r hr => List.all_eq_true.1 (allW_mem hall x hx) r hr, (chkW_0 hc).2.1 x hx⟩, fun v hv s hs => ?_⟩
 ·obtain ⟨i, hi, e⟩ := List.mem_iff_getElem.1 hv
  obtain ⟨h1, h2⟩ := hat i v (by rw [List.getElem?_eq_getElem hi, e])
  rw [h1, rowI_len (by rw [hlsl]; exact h2)]
 ·obtain ⟨i, hi, e⟩ := List.mem_iff_getElem.1 hv
  have hv' : rows[i]? = some v := by rw [List.getElem?_eq_getElem hi, e]
  obtain ⟨x, hx⟩ : ∃ x, ws[i]? = some x := ⟨_, List.getElem?_eq_getElem (by omega)⟩
  by_cases h : s = 0
  ·rw [h]; unfold lost; omega
  ·have h1 : s ∈ Cl.nz v.l := by unfold Cl.nz; exact List.mem_filter.2 ⟨hs, decide_eq_true h⟩
   rw [hnz i v x hv' hx] at h1
   unfold cds at h1
   obtain ⟨r, hr1, rfl⟩ := List.mem_map.1 h1
   have hrb := List.all_eq_true.1 (allW_mem hall x (List.mem_of_getElem? hx)) r hr1
   obtain ⟨_, _, h3, h4⟩ := cod_in hrb
   exact ⟨h3, h4⟩
theorem TbOK.tab {ws : List Wi} {rows : List RV} {m : Nat} (h : TbOK ws rows m) (h1 : 1 <= ws.length) (h5 : ws.length <= 5) (hm : m <= 64) : OkTab rows m :=
 ⟨by rw [h.n]; exact h1, by rw [h.n]; exact h5, hm, h.len, h.cod⟩
theorem TbOK.getD {ws : List Wi} {rows : List RV} {m : Nat} (h : TbOK ws rows m) (j : Nat) : ∀ v ∈ rows, 0 <= v.l.getD j lost := fun v hv => by
 rw [List.getD_eq_getElem?_getD]
 cases hj : v.l[j]? with
 | none => show 0 <= lost; unfold lost; omega
 | some s => exact (h.cod v hv s (List.mem_of_getElem? hj)).1
theorem rdK_mem {rows : List RV} {t : Tr} {k : Nat} (hf : Fit (stS rows k) (ownR rows k) t) : rdK rows t k ∈ rtL rows t k := by
 unfold rdK
 split
 ·assumption
 ·have hne : rtL rows t k ≠ [] := rts_ne hf
  cases h : rtL rows t k with
  | nil => exact absurd h hne
  | cons x l => exact List.mem_cons_self
theorem rtL_sub {rows : List RV} {t : Tr} {k : Nat} {x : Int} (h : x ∈ rtL rows t k) : x ∈ stS rows k /\ bel (stS rows k) (ownR rows k) t x = some (prc (stS rows k) (ownR rows k) t) := by
 unfold rtL rts at h
 obtain ⟨h1, h2⟩ := List.mem_filter.1 h
 exact ⟨h1, of_decide_eq_true h2⟩
theorem TbOK.sg {ws : List Wi} {rows : List RV} {m : Nat} {t : Tr} (h : TbOK ws rows m) (hlv : ∀ i ∈ t.lv, i < rows.length) : SgOK ws rows (rdL rows t m) m := by
 refine ⟨h.n, h.len, rdL_len, h.nz, h.ok, fun k c hk h0 => ?_⟩
 have hkm : k < m := by have := (List.getElem?_eq_some_iff.1 hk).1; rw [rdL_len] at this; exact this
 have hc : rdK rows t k = c := by
  unfold rdL at hk
  rw [List.getElem?_map, List.getElem?_range hkm] at hk
  exact Option.some.inj hk
 have hm := (rtL_sub (rdK_mem (stS_fit (j := k) (h.getD k) hlv))).1
 rw [hc, stS_mem (h.getD k)] at hm
 rcases fold_in rows [0] c hm with h1 | ⟨v, hv, e, hne⟩
 ·exact absurd (List.mem_singleton.1 h1) h0
 ·obtain ⟨i, hi, ei⟩ := List.mem_iff_getElem.1 hv
  refine ⟨hne, i, v, by rw [List.getElem?_eq_getElem hi, ei], ?_⟩
  rw [e, List.getD_eq_getElem?_getD]
  rw [List.getElem?_eq_getElem (by rw [h.len v hv]; exact hkm)]; rfl
end R41
end Go.Proofs
