/- Collating: checks of witnesses. -/
import Derived.Test.YtdegengehbdelaaGreatDoorClK
set_option maxRecDepth 100000
set_option maxHeartbeats 400000000
set_option linter.unusedSectionVars false
set_option linter.unusedVariables false
set_option linter.unusedSimpArgs false
namespace Go.Proofs
open Go.RowKit Go.Kin Go.Kin.Cl
namespace R41
/-- a witness: its numbers, and where its readings lie -/
structure Wi where
 no : Int
 year : Int
 A : Option Addr
 cap : Nat
 rs : List Rd
@[reducible] def wiE (x : Wi) : List Value := [.int .i64 x.no, .int .i64 x.year, .slice x.A x.rs.length x.cap]
structure WiOK (w : World) (x : Wi) : Prop where
 at' : Kin.At w x.A 15 (x.rs.map rdE)
 wf : ∀ r ∈ x.rs, r.s.wf
 len : x.rs.length <= 9223372036854775807
def witB (last : Int) (x : Wi) : Bool := decide (last < x.no /\ x.no <= 1048576 /\ 0 <= x.year /\ x.year <= 3000) && x.rs.all readB
def allW : Int -> List Wi -> Bool
 | _, [] => true
 | last, x :: l => witB last x && allW x.no l
/-- what Check answers -/
def chkW (ws : List Wi) : Int := if 24 < ws.length ∨ ∃ x ∈ ws, 64 < x.rs.length then 2 else if allW 0 ws = true then 0 else 410
theorem chkW_n {ws : List Wi} (h : 24 < ws.length) : chkW ws = 2 := if_pos (.inl h)
theorem chkW_l {ws : List Wi} {x : Wi} (hx : x ∈ ws) (h : 64 < x.rs.length) : chkW ws = 2 := if_pos (.inr ⟨x, hx, h⟩)
theorem chkW_in {ws : List Wi} (h : ws.length <= 24) (h2 : ∀ x ∈ ws, x.rs.length <= 64) : chkW ws = if allW 0 ws = true then 0 else 410 := if_neg fun g => by
 rcases g with g | ⟨x, hx, g⟩
 ·omega
 ·have := h2 x hx; omega
theorem chkW_0 {ws : List Wi} (h : chkW ws = 0) : ws.length <= 24 /\ (∀ x ∈ ws, x.rs.length <= 64) /\ allW 0 ws = true := by
 unfold chkW at h
 split at h
 ·cases h
 ·rename_i g
  split at h
  ·rename_i g2
   exact ⟨by omega, fun x hx => Nat.le_of_not_lt fun h => g (.inr ⟨x, hx, h⟩), g2⟩
  ·cases h
/-- the number of the witness before -/
def lastN (ws : List Wi) : Nat -> Int
 | 0 => 0
 | k + 1 => match ws[k]? with
   | some x => x.no
   | none => 0
theorem lastN_succ {ws : List Wi} {k : Nat} {x : Wi} (h : ws[k]? = some x) : lastN ws (k + 1) = x.no := by simp only [lastN, h]
theorem allW_drop {ws : List Wi} {k : Nat} {x : Wi} (h : ws[k]? = some x) : allW (lastN ws k) (ws.drop k) = (witB (lastN ws k) x && allW (lastN ws (k + 1)) (ws.drop (k + 1))) := by
 obtain ⟨h1, h2⟩ := List.getElem?_eq_some_iff.1 h
 rw [List.drop_eq_getElem_cons h1, h2, allW, lastN_succ h]
theorem witB_no {last : Int} {x : Wi} (h : ¬ (last < x.no /\ x.no <= 1048576 /\ 0 <= x.year /\ x.year <= 3000)) : witB last x = false := by unfold witB; rw [decide_eq_false h]; rfl
theorem witB_yes {last : Int} {x : Wi} (h : last < x.no /\ x.no <= 1048576 /\ 0 <= x.year /\ x.year <= 3000) : witB last x = x.rs.all readB := by unfold witB; rw [decide_eq_true h]; rfl

theorem Check_calls (A : Option Addr) (cap : Nat) (ws : List Wi) (w : World) (hA : Kin.At w A 3 (ws.map wiE)) (hx : ∀ x ∈ ws, WiOK w x) (hl : ws.length <= 9223372036854775807) :
  Calls Tryz.prog 15 ⟨[.slice A ws.length cap]⟩ w fun e w' => e = .returned (.int .i64 (chkW ws)) /\ Below w.heap.size w w' := by
 refine fEn Tryz.func15 rfl Tryz.ntmps15 rfl rfl (sWn w) ?_
 by_cases hn : 24 < ws.length
 ·have hv := chkW_n hn
  repeat (first|refine lVa rfl rfl (by first|exact pEv rfl|fail) ?_|refine lNi ?_|refine cRg ?_|refine cSq ?_|refine xTh ?_|refine c_dec_t rfl (by first|omega|fail) ?_|refine c_ret ?_|refine xTr ?_|fail)
  exact x_ret rfl rfl (by repeat constructor) rfl (fun W hW => ⟨by rw [hv], hW.below⟩)
 have hn : ws.length <= 24 := by omega
 repeat (first|refine lVa rfl rfl (by first|exact pEv rfl|fail) ?_|refine lNi ?_|refine cRg ?_|refine cSq ?_|refine xTh ?_|refine c_dec_f rfl (by first|omega|fail) ?_|refine cBl ?_|refine cSk ?_|fail)
 refine c_loop (ι := Nat) (fun k => k <= ws.length /\ (Unit -> ∀ x ∈ ws.take k, x.rs.length <= 64)) (fun k => [(0, .slice A ws.length cap), (2, .int .i64 0), (13, .slice A ws.length cap), (14, .int .i64 ws.length), (15, .int .i64 k)]) (fun _ => []) (fun k => ws.length - k) 0 ⟨by omega, fun _ x hx => by cases hx⟩ (by repeat (first|exact .nil|refine .cons rfl (by first|rfl|(congr 1; done)|exact congrArg _ (by omega)|(simp; done)) ?_)) (by repeat (first|exact .nil|refine .keep (by first|rfl|assumption) ?_|refine .drop ?_|exact MSub.refl _)) ?_
 rintro k ⟨hk, hM⟩
 by_cases hlt : k < ws.length
 ·obtain ⟨x, hwx⟩ : ∃ x, ws[k]? = some x := ⟨_, List.getElem?_eq_getElem hlt⟩
  have hmem := List.mem_of_getElem? hwx
  have hxl := (hx x hmem).len
  obtain ⟨b1, o1, rfl, e1⟩ := ext_at hA hwx
  have g1 := ext_of e1
  by_cases h64 : 64 < x.rs.length
  ·have hv := chkW_l hmem h64
   repeat (first|refine lVa rfl rfl (by first|exact pEv rfl|exact vLd rfl (by repeat constructor) rfl (by rfl)|exact vL0 rfl (by assumption) rfl (by rfl)|exact v_index rfl rfl rfl rfl (by omega) (by omega) (by with_reducible first|exact idx4 _ _ _|fail)|fail) ?_|refine lNi ?_|refine cRg ?_|refine cSq ?_|refine xTh ?_|refine r_alloc rfl rfl rfl (by first|exact aggL|fail) (fun _ => ?_)|refine rSt rfl rfl rfl rfl rfl rfl rfl (by repeat constructor) (by rfl) ?_|refine c_dec_t rfl (by first|omega|fail) ?_|refine cBl ?_|refine cSk ?_|refine c_ret ?_|refine xTr ?_|refine xBr ?_|fail)
   exact x_ret rfl rfl (by repeat constructor) rfl (fun W hW => ⟨by rw [hv], hW.below⟩)
  ·have hM' : Unit -> ∀ y ∈ ws.take (k + 1), y.rs.length <= 64 := fun _ y hy => by
    rw [List.take_add_one, hwx, List.mem_append] at hy
    rcases hy with hy | hy
    ·exact hM () y hy
    ·cases List.mem_singleton.1 hy; omega
   clear hM
   repeat (first|refine lVa rfl rfl (by first|exact v_add rfl rfl (by omega) (by omega)|exact pEv rfl|exact vLd rfl (by repeat constructor) rfl (by rfl)|exact vL0 rfl (by assumption) rfl (by rfl)|exact v_index rfl rfl rfl rfl (by omega) (by omega) (by with_reducible first|exact idx4 _ _ _|fail)|fail) ?_|refine lNi ?_|refine cRg ?_|refine cSq ?_|refine xTh ?_|refine r_alloc rfl rfl rfl (by first|exact aggL|fail) (fun _ => ?_)|refine rSt rfl rfl rfl rfl rfl rfl rfl (by repeat constructor) (by rfl) ?_|refine c_dec_t rfl (by first|omega|fail) ?_|refine c_dec_f rfl (by first|omega|fail) ?_|refine cBl ?_|refine cSk ?_|refine x_block ?_|fail)
   exact x_back (k + 1) ⟨hlt, hM'⟩ (by omega) (by repeat (first|exact .nil|refine .cons rfl (by first|rfl|(congr 1; done)|exact congrArg _ (by omega)|(simp; done)) ?_)) (by repeat (first|exact .nil|refine .keep (by first|rfl|assumption) ?_|refine .drop ?_|exact MSub.refl _))
 have hkl : k = ws.length := by omega
 subst hkl
 have h64 : ∀ x ∈ ws, x.rs.length <= 64 := by have := hM (); rwa [List.take_length] at this
 have hv := chkW_in hn h64
 clear hM hlt hk
 repeat (first|refine lVa rfl rfl (by first|exact pEv rfl|fail) ?_|refine lNi ?_|refine cRg ?_|refine cSq ?_|refine xTh ?_|refine c_dec_f rfl (by first|omega|fail) ?_|refine cBl ?_|refine c_exit ?_|refine xTe ?_|refine xBs ?_|fail)
 refine c_loop (ι := Nat) (fun k => k <= ws.length /\ (Unit -> allW 0 ws = allW (lastN ws k) (ws.drop k))) (fun k => [(0, .slice A ws.length cap), (2, .int .i64 0), (5, .int .i64 (lastN ws k)), (24, .slice A ws.length cap), (25, .int .i64 ws.length), (26, .int .i64 k)]) (fun _ => []) (fun k => ws.length - k) 0 ⟨by omega, fun _ => rfl⟩ (by repeat (first|exact .nil|refine .cons rfl (by first|rfl|(congr 1; done)|exact congrArg _ (by omega)|(simp; done)) ?_)) (by repeat (first|exact .nil|refine .keep (by first|rfl|assumption) ?_|refine .drop ?_|exact MSub.refl _)) ?_
 rintro k ⟨hk, hM⟩
 by_cases hlt : k < ws.length
 ·obtain ⟨x, hwx⟩ : ∃ x, ws[k]? = some x := ⟨_, List.getElem?_eq_getElem hlt⟩
  have hmem := List.mem_of_getElem? hwx
  have hok := hx x hmem
  have hl64 := h64 x hmem
  obtain ⟨b1, o1, rfl, e1⟩ := ext_at hA hwx
  have g1 := ext_of e1
  have hd := allW_drop hwx
  by_cases hq : lastN ws k < x.no /\ x.no <= 1048576 /\ 0 <= x.year /\ x.year <= 3000
  rotate_left
  ·have hv2 : chkW ws = 410 := by rw [hv, if_neg]; rw [hM (), hd, witB_no hq]; simp
   clear hM hv hd
   generalize lastN ws k = z at *
   by_cases q1 : z < x.no
   ·by_cases q2 : x.no <= 1048576
    ·by_cases q3 : 0 <= x.year
     ·have q4 : ¬ x.year <= 3000 := fun h => hq ⟨q1, q2, q3, h⟩
      clear hq
      repeat (first|refine lVa rfl rfl (by first|exact pEv rfl|exact vLd rfl (by repeat constructor) rfl (by rfl)|exact vL0 rfl (by assumption) rfl (by rfl)|exact v_index rfl rfl rfl rfl (by omega) (by omega) (by with_reducible first|exact idx4 _ _ _|fail)|fail) ?_|refine lNi ?_|refine cRg ?_|refine cSq ?_|refine xTh ?_|refine r_alloc rfl rfl rfl (by first|exact aggL|fail) (fun _ => ?_)|refine rSt rfl rfl rfl rfl rfl rfl rfl (by repeat constructor) (by rfl) ?_|refine c_dec_t rfl (by first|omega|fail) ?_|refine cBl ?_|refine cSk ?_|refine c_ret ?_|refine xTr ?_|refine xBr ?_|refine l_dec_f rfl rfl rfl rfl rfl (by first|omega|fail) ?_|fail)
      exact x_ret rfl rfl (by repeat constructor) rfl (fun W hW => ⟨by rw [hv2], hW.below⟩)
     ·clear hq
      repeat (first|refine lVa rfl rfl (by first|exact pEv rfl|exact vLd rfl (by repeat constructor) rfl (by rfl)|exact vL0 rfl (by assumption) rfl (by rfl)|exact v_index rfl rfl rfl rfl (by omega) (by omega) (by with_reducible first|exact idx4 _ _ _|fail)|fail) ?_|refine lNi ?_|refine cRg ?_|refine cSq ?_|refine xTh ?_|refine l_skip rfl rfl ?_|refine r_alloc rfl rfl rfl (by first|exact aggL|fail) (fun _ => ?_)|refine rSt rfl rfl rfl rfl rfl rfl rfl (by repeat constructor) (by rfl) ?_|refine c_true rfl ?_|refine c_dec_t rfl (by first|omega|fail) ?_|refine cBl ?_|refine cSk ?_|refine c_ret ?_|refine xTr ?_|refine xBr ?_|refine l_dec_t rfl rfl rfl rfl rfl (by first|omega|fail) ?_|refine l_dec_f rfl rfl rfl rfl rfl (by first|omega|fail) ?_|fail)
      exact x_ret rfl rfl (by repeat constructor) rfl (fun W hW => ⟨by rw [hv2], hW.below⟩)
    ·clear hq
     repeat (first|refine lVa rfl rfl (by first|exact pEv rfl|exact vLd rfl (by repeat constructor) rfl (by rfl)|exact vL0 rfl (by assumption) rfl (by rfl)|exact v_index rfl rfl rfl rfl (by omega) (by omega) (by with_reducible first|exact idx4 _ _ _|fail)|fail) ?_|refine lNi ?_|refine cRg ?_|refine cSq ?_|refine xTh ?_|refine l_skip rfl rfl ?_|refine r_alloc rfl rfl rfl (by first|exact aggL|fail) (fun _ => ?_)|refine rSt rfl rfl rfl rfl rfl rfl rfl (by repeat constructor) (by rfl) ?_|refine c_true rfl ?_|refine c_dec_t rfl (by first|omega|fail) ?_|refine cBl ?_|refine cSk ?_|refine c_ret ?_|refine xTr ?_|refine xBr ?_|refine l_dec_t rfl rfl rfl rfl rfl (by first|omega|fail) ?_|refine l_dec_f rfl rfl rfl rfl rfl (by first|omega|fail) ?_|fail)
     exact x_ret rfl rfl (by repeat constructor) rfl (fun W hW => ⟨by rw [hv2], hW.below⟩)
   ·clear hq
    repeat (first|refine lVa rfl rfl (by first|exact pEv rfl|exact vLd rfl (by repeat constructor) rfl (by rfl)|exact vL0 rfl (by assumption) rfl (by rfl)|exact v_index rfl rfl rfl rfl (by omega) (by omega) (by with_reducible first|exact idx4 _ _ _|fail)|fail) ?_|refine lNi ?_|refine cRg ?_|refine cSq ?_|refine xTh ?_|refine l_skip rfl rfl ?_|refine r_alloc rfl rfl rfl (by first|exact aggL|fail) (fun _ => ?_)|refine rSt rfl rfl rfl rfl rfl rfl rfl (by repeat constructor) (by rfl) ?_|refine c_true rfl ?_|refine c_dec_t rfl (by first|omega|fail) ?_|refine cBl ?_|refine cSk ?_|refine c_ret ?_|refine xTr ?_|refine xBr ?_|refine l_dec_t rfl rfl rfl rfl rfl (by first|omega|fail) ?_|fail)
    exact x_ret rfl rfl (by repeat constructor) rfl (fun W hW => ⟨by rw [hv2], hW.below⟩)
  obtain ⟨q1, q2, q3, q4⟩ := hq
  rw [witB_yes ⟨q1, q2, q3, q4⟩] at hd
  have hls := lastN_succ hwx
  repeat (first|refine lVa rfl rfl (by first|exact pEv rfl|exact vLd rfl (by repeat constructor) rfl (by rfl)|exact vL0 rfl (by assumption) rfl (by rfl)|exact v_index rfl rfl rfl rfl (by omega) (by omega) (by with_reducible first|exact idx4 _ _ _|fail)|fail) ?_|refine lNi ?_|refine cRg ?_|refine cSq ?_|refine xTh ?_|refine r_alloc rfl rfl rfl (by first|exact aggL|fail) (fun _ => ?_)|refine rSt rfl rfl rfl rfl rfl rfl rfl (by repeat constructor) (by rfl) ?_|refine c_dec_t rfl (by first|omega|fail) ?_|refine c_dec_f rfl (by first|omega|fail) ?_|refine cBl ?_|refine cSk ?_|refine l_dec_f rfl rfl rfl rfl rfl (by first|omega|fail) ?_|fail)
  refine c_loop (ι := Nat) (fun j => j <= x.rs.length /\ (Unit -> (x.rs.take j).all readB = true)) (fun j => [(0, .slice (some ⟨b1, o1, none⟩) ws.length cap), (2, .int .i64 0), (5, .int .i64 x.no), (24, .slice (some ⟨b1, o1, none⟩) ws.length cap), (25, .int .i64 ws.length), (26, .int .i64 k), (52, .slice x.A x.rs.length x.cap), (53, .int .i64 x.rs.length), (54, .int .i64 j)]) (fun _ => []) (fun j => x.rs.length - j) 0 ⟨by omega, fun _ => rfl⟩ (by repeat (first|exact .nil|refine .cons rfl (by first|rfl|(congr 1; done)|exact congrArg _ (by omega)|(simp; done)) ?_)) (by repeat (first|exact .nil|refine .keep (by first|rfl|assumption) ?_|refine .drop ?_|exact MSub.refl _)) ?_
  rintro j ⟨hj, hR⟩
  by_cases hjt : j < x.rs.length
  ·obtain ⟨r, hr⟩ : ∃ r, x.rs[j]? = some r := ⟨_, List.getElem?_eq_getElem hjt⟩
   have hrm := List.mem_of_getElem? hr
   obtain ⟨b2, o2, hA2, e2⟩ := ext_at hok.at' hr
   have g2 := ext_of e2
   rw [hA2]
   have hwf := hok.wf r hrm
   have hno : readB r = false -> chkW ws = 410 := fun h => by
    rw [hv, if_neg]; rw [hM (), hd, show x.rs.all readB = false by rw [List.all_eq_false]; exact ⟨r, hrm, by rw [h]; decide⟩]; simp
   have hyes : readB r = true -> (Unit -> (x.rs.take (j + 1)).all readB = true) := fun h _ => by
    rw [List.take_add_one, hr, List.all_append, hR ()]; simp [h]
   clear hM hR hv hd
   obtain ⟨lost, s⟩ := r
   have g2 : Ext w (base w) b2 (o2 + j * 15) (.bool lost :: sgE s) := g2
   have hwf : s.wf := hwf
   have hno := fun (_ : Unit) => hno
   have hyes := fun (_ : Unit) => hyes
   cases lost with
   | true =>
    by_cases hs : s = sg0
    ·have hy := hyes () (by rw [readB_t]; exact decide_eq_true hs)
     clear hno hyes
     repeat (first|(refine lVa rfl rfl (v_neS rfl rfl rfl (eqsg s sg0)) ?_)|refine lVa rfl rfl (by first|exact v_add rfl rfl (by omega) (by omega)|exact pEv rfl|exact vLd rfl (by repeat constructor) rfl (by rfl)|exact vL0 rfl (by assumption) rfl (by rfl)|exact v_index rfl rfl rfl rfl (by omega) (by omega) (by with_reducible first|exact idx4 _ _ _|fail)|exact v_build rfl rfl (by rfl)|fail) ?_|refine lNi ?_|refine cRg ?_|refine cSq ?_|refine xTh ?_|refine l_skip rfl rfl ?_|refine r_alloc rfl rfl rfl (by first|exact aggL|fail) (fun _ => ?_)|refine rSt rfl rfl rfl rfl rfl rfl rfl (by repeat constructor) (by rfl) ?_|refine c_false rfl ?_|refine c_dec_t rfl (by first|omega|fail) ?_|refine cBl ?_|refine cSk ?_|refine x_block ?_|refine l_not_f rfl rfl rfl rfl (by first|omega|fail) ?_|fail)
     exact x_back (j + 1) ⟨hjt, hy⟩ (by omega) (by repeat (first|exact .nil|refine .cons rfl (by first|rfl|(congr 1; done)|exact congrArg _ (by omega)|(simp; done)) ?_)) (by repeat (first|exact .nil|refine .keep (by first|rfl|assumption) ?_|refine .drop ?_|exact MSub.refl _))
    ·have hv2 := hno () (by rw [readB_t]; exact decide_eq_false hs)
     clear hno hyes
     repeat (first|(refine lVa rfl rfl (v_neS rfl rfl rfl (eqsg s sg0)) ?_)|refine lVa rfl rfl (by first|exact pEv rfl|exact vLd rfl (by repeat constructor) rfl (by rfl)|exact vL0 rfl (by assumption) rfl (by rfl)|exact v_index rfl rfl rfl rfl (by omega) (by omega) (by with_reducible first|exact idx4 _ _ _|fail)|exact v_build rfl rfl (by rfl)|fail) ?_|refine lNi ?_|refine cRg ?_|refine cSq ?_|refine xTh ?_|refine l_skip rfl rfl ?_|refine r_alloc rfl rfl rfl (by first|exact aggL|fail) (fun _ => ?_)|refine rSt rfl rfl rfl rfl rfl rfl rfl (by repeat constructor) (by rfl) ?_|refine c_true rfl ?_|refine c_dec_t rfl (by first|omega|fail) ?_|refine cBl ?_|refine cSk ?_|refine c_ret ?_|refine xTr ?_|refine xBr ?_|refine l_not_t rfl rfl rfl rfl (by first|omega|fail) ?_|fail)
     exact x_ret rfl rfl (by repeat constructor) rfl (fun W hW => ⟨by rw [hv2], hW.below⟩)
   | false =>
    by_cases hid : s.id = 0
    ·cases hf : formB s with
     | true =>
      have hy := hyes () (by rw [readB_f, hf]; simp [hid])
      clear hno hyes
      repeat (first|refine lVa rfl rfl (by first|exact pEv rfl|exact vLd rfl (by repeat constructor) rfl (by rfl)|exact vL0 rfl (by assumption) rfl (by rfl)|exact v_index rfl rfl rfl rfl (by omega) (by omega) (by with_reducible first|exact idx4 _ _ _|fail)|exact v_build rfl rfl (by rfl)|fail) ?_|refine lNi ?_|refine cRg ?_|refine cSq ?_|refine xTh ?_|refine l_skip rfl rfl ?_|refine r_alloc rfl rfl rfl (by first|exact aggL|fail) (fun _ => ?_)|refine rSt rfl rfl rfl rfl rfl rfl rfl (by repeat constructor) (by rfl) ?_|refine r_buildSlice rfl rfl rfl rfl rfl rfl (by rfl) (fun _ => ?_)|refine c_dec_t rfl (by first|omega|fail) ?_|refine cBl ?_|refine cSk ?_|refine l_dec_f rfl rfl rfl rfl rfl (by first|omega|fail) ?_|fail)
      refine r_call rfl rfl rfl (fun W hW => check1_calls s hwf _ W (hW.rows (by repeat constructor) (rows := [sgE s]) (rest := []) rfl (by simp))) ?_
      rw [hf, if_pos rfl]
      repeat (first|refine lVa rfl rfl (by first|exact v_add rfl rfl (by omega) (by omega)|exact pEv rfl|fail) ?_|refine lNi ?_|refine cRg ?_|refine xTh ?_|refine c_false rfl ?_|refine cSk ?_|refine x_block ?_|fail)
      exact x_back (j + 1) ⟨hjt, hy⟩ (by omega) (by repeat (first|exact .nil|refine .cons rfl (by first|rfl|(congr 1; done)|exact congrArg _ (by omega)|(simp; done)) ?_)) (by repeat (first|exact .nil|refine .keep (by first|rfl|assumption) ?_|refine .drop ?_|exact MSub.refl _))
     | false =>
      have hv2 := hno () (by rw [readB_f, hf]; rfl)
      clear hno hyes
      repeat (first|refine lVa rfl rfl (by first|exact pEv rfl|exact vLd rfl (by repeat constructor) rfl (by rfl)|exact vL0 rfl (by assumption) rfl (by rfl)|exact v_index rfl rfl rfl rfl (by omega) (by omega) (by with_reducible first|exact idx4 _ _ _|fail)|exact v_build rfl rfl (by rfl)|fail) ?_|refine lNi ?_|refine cRg ?_|refine cSq ?_|refine xTh ?_|refine l_skip rfl rfl ?_|refine r_alloc rfl rfl rfl (by first|exact aggL|fail) (fun _ => ?_)|refine rSt rfl rfl rfl rfl rfl rfl rfl (by repeat constructor) (by rfl) ?_|refine r_buildSlice rfl rfl rfl rfl rfl rfl (by rfl) (fun _ => ?_)|refine c_dec_t rfl (by first|omega|fail) ?_|refine cBl ?_|refine cSk ?_|refine l_dec_f rfl rfl rfl rfl rfl (by first|omega|fail) ?_|fail)
      refine r_call rfl rfl rfl (fun W hW => check1_calls s hwf _ W (hW.rows (by repeat constructor) (rows := [sgE s]) (rest := []) rfl (by simp))) ?_
      rw [hf, if_neg (by decide)]
      repeat (first|refine lVa rfl rfl (by first|exact pEv rfl|fail) ?_|refine lNi ?_|refine cRg ?_|refine cSq ?_|refine xTh ?_|refine c_true rfl ?_|refine c_ret ?_|refine xTr ?_|refine xBr ?_|fail)
      exact x_ret rfl rfl (by repeat constructor) rfl (fun W hW => ⟨by rw [hv2], hW.below⟩)
    ·have hv2 := hno () (by rw [readB_f]; simp [hid])
     clear hno hyes
     repeat (first|refine lVa rfl rfl (by first|exact pEv rfl|exact vLd rfl (by repeat constructor) rfl (by rfl)|exact vL0 rfl (by assumption) rfl (by rfl)|exact v_index rfl rfl rfl rfl (by omega) (by omega) (by with_reducible first|exact idx4 _ _ _|fail)|exact v_build rfl rfl (by rfl)|fail) ?_|refine lNi ?_|refine cRg ?_|refine cSq ?_|refine xTh ?_|refine l_skip rfl rfl ?_|refine r_alloc rfl rfl rfl (by first|exact aggL|fail) (fun _ => ?_)|refine rSt rfl rfl rfl rfl rfl rfl rfl (by repeat constructor) (by rfl) ?_|refine c_true rfl ?_|refine c_dec_t rfl (by first|omega|fail) ?_|refine cBl ?_|refine cSk ?_|refine c_ret ?_|refine xTr ?_|refine xBr ?_|refine l_dec_t rfl rfl rfl rfl rfl (by first|omega|fail) ?_|fail)
     exact x_ret rfl rfl (by repeat constructor) rfl (fun W hW => ⟨by rw [hv2], hW.below⟩)
  ·have hjl : j = x.rs.length := by omega
   have hall := hR ()
   rw [hjl, List.take_length] at hall
   rw [hall, Bool.true_and] at hd
   have hM' : Unit -> allW 0 ws = allW (lastN ws (k + 1)) (ws.drop (k + 1)) := fun _ => (hM ()).trans hd
   clear hM hR hd hall
   repeat (first|refine lVa rfl rfl (by first|exact v_add rfl rfl (by omega) (by omega)|exact pEv rfl|fail) ?_|refine lNi ?_|refine cRg ?_|refine cSq ?_|refine xTh ?_|refine c_dec_f rfl (by first|omega|fail) ?_|refine c_exit ?_|refine xTe ?_|refine x_block ?_|refine xBs ?_|fail)
   rw [<- hls]
   exact x_back (k + 1) ⟨hlt, hM'⟩ (by omega) (by repeat (first|exact .nil|refine .cons rfl (by first|rfl|(congr 1; done)|exact congrArg _ (by omega)|(simp; done)) ?_)) (by repeat (first|exact .nil|refine .keep (by first|rfl|assumption) ?_|refine .drop ?_|exact MSub.refl _))
 ·have hkl : k = ws.length := by omega
  subst hkl
  have hyes := hM ()
  rw [List.drop_length, allW] at hyes
  have hv2 : chkW ws = 0 := by rw [hv, if_pos hyes]
  clear hM hv hyes
  generalize lastN ws ws.length = z at *
  repeat (first|refine lVa rfl rfl (by first|exact pEv rfl|fail) ?_|refine lNi ?_|refine cRg ?_|refine cSq ?_|refine xTh ?_|refine c_dec_f rfl (by first|omega|fail) ?_|refine c_ret ?_|refine c_exit ?_|refine xTe ?_|refine xBs ?_|fail)
  exact x_ret rfl rfl (by repeat constructor) rfl (fun W hW => ⟨by rw [hv2], hW.below⟩)
end R41
end Go.Proofs
