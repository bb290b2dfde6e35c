/- Stemmata: the parts of a clade, walked. -/
import Derived.Test.YtdegengehbdelaaGreatDoorSeB
set_option maxRecDepth 100000
set_option maxHeartbeats 400000000
set_option linter.unusedSectionVars false
set_option linter.unusedVariables false
set_option linter.unusedSimpArgs false
namespace Go.Proofs
open Go.RowKit Go.Kin Go.Kin.Se
namespace R41
def prtV : Option (Nat × Nat) -> Value
 | none => .tuple ⟨[.int .i64 0, .int .i64 0, .bool false]⟩
 | some (a, b) => .tuple ⟨[.int .i64 a, .int .i64 b, .bool true]⟩
theorem parts_calls (A : Option Addr) (cap : Nat) (cl : List Nat) (c : Nat) (w : World) (hA : Kin.At w A 1 (cl.map nE)) (hl : cl.length <= 1000) (hc : c < 64) (h0 : 0 < c) :
  Calls Tryz.prog 52 ⟨[.slice A cl.length cap, .int .i64 c]⟩ w fun e w' => e = .returned (prtV (prt cl c)) /\ Below w.heap.size w w' := by
 have hcm : bits .and .i64 ((c : Int) - 1) (c : Int) = (((c - 1) &&& c : Nat) : Int) := by rw [sub_one h0]; exact and_small (c - 1) (by omega) c hc
 have hcn : bits .and .i64 (c : Int) (-(c : Int)) = ((lb c : Nat) : Int) := neg_small c hc h0
 refine fEn Tryz.func52 rfl Tryz.ntmps52 rfl rfl (sWn w) ?_
 repeat (first|refine lVa rfl rfl (v_andA rfl rfl hcm) ?_|refine lVa rfl rfl (by first|exact v_sub rfl rfl (by omega) (by omega)|exact pEv rfl|fail) ?_|refine lNi ?_|refine cRg ?_|refine cSq ?_|refine xTh ?_|refine r_box rfl rfl rfl rfl (fun _ => ?_)|refine cBl ?_|fail)
 rename_i b2
 have hle : (c - 1) &&& c <= c - 1 := Nat.and_le_left
 refine c_loop (ι := Nat × Nat) (fun s => s.1 <= s.2 /\ s.1 < c /\ s.2 <= c /\ prtL cl c s.2 s.1 = prt cl c) (fun s => [(1, .int .i64 c), (7, .func (.func 78) ⟨[]⟩ ⟨[.pointer (some ⟨b2, 0, none⟩)]⟩), (8, .int .i64 s.1)])
  (fun _ => [(b2, .cells ⟨[.slice A cl.length cap]⟩ 30 (0, 0))]) (fun s => s.2) ((c - 1) &&& c, c) ⟨by simp only; omega, by simp only; omega, Nat.le_refl _, rfl⟩ (by repeat (first|exact .nil|refine .cons rfl (by first|rfl|(congr 1; done)|exact congrArg _ (by omega)|(simp; done)) ?_)) (by repeat (first|exact .nil|refine .keep (by first|rfl|assumption) ?_|refine .drop ?_|exact MSub.refl _)) ?_
 rintro ⟨a, f⟩ ⟨h1, h2, h3, h4⟩
 simp only at h1 h2 h3 h4 ⊢
 by_cases ha : a = 0
 ·subst ha
  have hn : prt cl c = none := by
   rw [<- h4]
   cases f with
   | zero => rfl
   | succ f => exact if_pos rfl
  rw [hn]
  repeat (first|refine lVa rfl rfl (by first|exact pEv rfl|fail) ?_|refine lNi ?_|refine cRg ?_|refine cSq ?_|refine xTh ?_|refine c_false rfl ?_|refine c_ret ?_|refine c_exit ?_|refine xTe ?_|refine xBs ?_|fail)
  exact x_ret rfl rfl (by repeat constructor) rfl (fun W hW => ⟨rfl, hW.below⟩)
 obtain ⟨f, rfl⟩ : ∃ g, f = g + 1 := ⟨f - 1, by omega⟩
 have han : bits .and .i64 (a : Int) (-(a : Int)) = ((lb a : Nat) : Int) := neg_small a (by omega) (by omega)
 have hwo : bits .andNot .i64 (c : Int) (a : Int) = ((wo c a : Nat) : Int) := andNot_small c hc a (by omega)
 have ham : bits .and .i64 ((a : Int) - 1) (c : Int) = (((a - 1) &&& c : Nat) : Int) := by rw [sub_one (by omega)]; exact and_small (a - 1) (by omega) c hc
 have hwl : wo c a < 64 := by unfold wo; omega
 have hown : ∀ (s : Nat), s < 64 -> ∀ (mem : List (Nat × Obj)) (W : World), SatW w (base w) noJ mem W -> (b2, Obj.cells ⟨[.slice A cl.length cap]⟩ 30 (0, 0)) ∈ mem -> Calls Tryz.prog 78 ⟨[] ++ [.int .i64 s] ++ [.pointer (some ⟨b2, 0, none⟩)]⟩ W fun e w' => e = .returned (.bool (ownB cl s)) /\ Below W.heap.size W w' := fun s hs mem W hW hm =>
  own_calls s b2 A cap cl W hs (hW.cellAt hm 0) (hA.sat hW) hl
 have hst : prtL cl c (f + 1) a = if (decide (lb a = lb c) && ownB cl a) && ownB cl (wo c a) then some (a, wo c a) else prtL cl c f ((a - 1) &&& c) := if_neg ha
 have hal : (a - 1) &&& c <= a - 1 := Nat.and_le_left
 by_cases hlb : lb a = lb c
 rotate_left
 ·rw [decide_eq_false hlb, Bool.false_and, Bool.false_and, if_neg (by decide)] at hst
  repeat (first|refine lVa rfl rfl (v_andA rfl rfl han) ?_|refine lVa rfl rfl (v_andA rfl rfl hcn) ?_|refine lVa rfl rfl (v_andA rfl rfl ham) ?_|refine lVa rfl rfl (by first|exact v_sub rfl rfl (by omega) (by omega)|exact v_neg rfl (by omega) (by omega)|exact pEv rfl|fail) ?_|refine lNi ?_|refine cRg ?_|refine cSq ?_|refine xTh ?_|refine l_skip rfl rfl ?_|refine c_false rfl ?_|refine c_dec_t rfl (by first|omega|fail) ?_|refine cBl ?_|refine cSk ?_|refine x_block ?_|refine l_dec_f rfl rfl rfl rfl rfl (by first|omega|fail) ?_|fail)
  exact x_back ((a - 1) &&& c, f) ⟨by simp only; omega, by simp only; omega, by simp only; omega, by simp only; rw [<- hst]; exact h4⟩ (by simp only; omega) (by repeat (first|exact .nil|refine .cons rfl (by first|rfl|(congr 1; done)|exact congrArg _ (by omega)|(simp; done)) ?_)) (by repeat (first|exact .nil|refine .keep (by first|rfl|assumption) ?_|refine .drop ?_|exact MSub.refl _))
 rw [decide_eq_true hlb, Bool.true_and] at hst
 repeat (first|refine lVa rfl rfl (v_andA rfl rfl han) ?_|refine lVa rfl rfl (v_andA rfl rfl hcn) ?_|refine lVa rfl rfl (by first|exact v_neg rfl (by omega) (by omega)|exact pEv rfl|fail) ?_|refine lNi ?_|refine cRg ?_|refine cSq ?_|refine xTh ?_|refine c_dec_t rfl (by first|omega|fail) ?_|refine cBl ?_|refine cSk ?_|refine l_dec_t rfl rfl rfl rfl rfl (by first|omega|fail) ?_|fail)
 refine r_callv rfl rfl rfl rfl rfl (fun W hW => hown a (by omega) _ W hW (by repeat constructor)) ?_
 cases h5 : ownB cl a with
 | false =>
  rw [h5, Bool.false_and, if_neg (by decide)] at hst
  repeat (first|refine lVa rfl rfl (v_andA rfl rfl ham) ?_|refine lVa rfl rfl (by first|exact v_sub rfl rfl (by omega) (by omega)|exact pEv rfl|fail) ?_|refine lNi ?_|refine cRg ?_|refine xTh ?_|refine l_skip rfl rfl ?_|refine c_false rfl ?_|refine cSk ?_|refine x_block ?_|fail)
  exact x_back ((a - 1) &&& c, f) ⟨by simp only; omega, by simp only; omega, by simp only; omega, by simp only; rw [<- hst]; exact h4⟩ (by simp only; omega) (by repeat (first|exact .nil|refine .cons rfl (by first|rfl|(congr 1; done)|exact congrArg _ (by omega)|(simp; done)) ?_)) (by repeat (first|exact .nil|refine .keep (by first|rfl|assumption) ?_|refine .drop ?_|exact MSub.refl _))
 | true =>
  rw [h5, Bool.true_and] at hst
  repeat (first|refine lVa rfl rfl (v_andNotA rfl rfl hwo) ?_|refine lVa rfl rfl (by first|exact pEv rfl|fail) ?_|fail)
  refine r_callv rfl rfl rfl rfl rfl (fun W hW => hown (wo c a) hwl _ W hW (by repeat constructor)) ?_
  cases h6 : ownB cl (wo c a) with
  | false =>
   rw [h6, if_neg (by decide)] at hst
   repeat (first|refine lVa rfl rfl (v_andA rfl rfl ham) ?_|refine lVa rfl rfl (by first|exact v_sub rfl rfl (by omega) (by omega)|exact pEv rfl|fail) ?_|refine lNi ?_|refine cRg ?_|refine xTh ?_|refine c_false rfl ?_|refine cSk ?_|refine x_block ?_|fail)
   exact x_back ((a - 1) &&& c, f) ⟨by simp only; omega, by simp only; omega, by simp only; omega, by simp only; rw [<- hst]; exact h4⟩ (by simp only; omega) (by repeat (first|exact .nil|refine .cons rfl (by first|rfl|(congr 1; done)|exact congrArg _ (by omega)|(simp; done)) ?_)) (by repeat (first|exact .nil|refine .keep (by first|rfl|assumption) ?_|refine .drop ?_|exact MSub.refl _))
  | true =>
   rw [h6, if_pos rfl] at hst
   have hv : prtV (prt cl c) = .tuple ⟨[.int .i64 a, .int .i64 (wo c a : Nat), .bool true]⟩ := by rw [<- h4, hst]; rfl
   repeat (first|refine lVa rfl rfl (v_andNotA rfl rfl hwo) ?_|refine lVa rfl rfl (by first|exact pEv rfl|fail) ?_|refine lNi ?_|refine cRg ?_|refine cSq ?_|refine xTh ?_|refine c_true rfl ?_|refine c_ret ?_|refine xTr ?_|refine xBr ?_|fail)
   exact x_ret rfl rfl (by repeat constructor) rfl (fun W hW => ⟨by rw [hv], hW.below⟩)
end R41
end Go.Proofs

set_option maxRecDepth 100000
set_option maxHeartbeats 400000000
namespace Go.Proofs
open Go.RowKit Go.Kin Go.Kin.Se
namespace R41
theorem shl_small : ∀ n, n < 7 -> IntKind.i64.wrap (1 * 2 ^ n) = ((2 ^ n : Nat) : Int) := by decide +kernel
theorem incN_take {m : Nat} : ∀ {cl : List Nat} {i : Nat} {c : Nat}, cl[i]? = some c -> incN m cl = true -> ((cl.take i).getLastD m) < c
 | _ :: _, 0, c, h, hi => by
  cases h
  unfold incN at hi
  rw [Bool.and_eq_true, decide_eq_true_eq] at hi
  exact hi.1
 | y :: cl, i + 1, c, h, hi => by
  unfold incN at hi
  rw [Bool.and_eq_true] at hi
  have := incN_take (m := y) (i := i) (by simpa using h) hi.2
  cases i with
  | zero => simpa using this
  | succ i =>
   cases cl with
   | nil => simp at h
   | cons z cl => simpa [List.getLast?_cons] using this
/-- a list of clades that is a stemma -/
theorem CheckT_calls (n : Nat) (A : Option Addr) (cap : Nat) (cl : List Nat) (w : World) (hA : Kin.At w A 1 (cl.map nE)) (hn : n <= 5) (h : chkB n cl = true) :
  Calls Tryz.prog 24 ⟨[.int .i64 n, .slice A cl.length cap]⟩ w fun e w' => e = .returned (.int .i64 0) /\ Below w.heap.size w w' := by
 unfold chkB at h
 simp only [Bool.and_eq_true, decide_eq_true_eq, List.all_eq_true] at h
 obtain ⟨h1, h2, h3, h4, h5, h6⟩ := h
 have hsh := shl_small n (by omega)
 have hfu : ((full n : Nat) : Int) = ((2 ^ n : Nat) : Int) - 1 := by
  unfold full
  have := Nat.two_pow_pos n
  omega
 have hp2 : 2 ^ n <= 32 := Nat.pow_le_pow_right (n := 2) (by decide) hn
 obtain ⟨P, hP⟩ : ∃ P, 2 ^ n = P := ⟨_, rfl⟩
 rw [hP] at hsh h4 hfu hp2
 have hg : ∀ (i c : Nat), cl[i]? = some c -> ∃ b o, A = some ⟨b, o, none⟩ /\ Ext w (base w) b (o + i) [.int .i64 c] := fun i c hi => by
  obtain ⟨b, o, e, hc⟩ := hA i (nE c) (by simp [hi])
  refine ⟨b, o, e, ?_⟩
  have := ext_of hc
  rwa [Nat.mul_one] at this
 refine fEn Tryz.func24 rfl Tryz.ntmps24 rfl rfl (sWn w) ?_
 repeat (first|refine lVa rfl rfl (by first|exact v_sub rfl rfl (by omega) (by omega)|exact pEv rfl|fail) ?_|refine lNi ?_|refine cRg ?_|refine cSq ?_|refine xTh ?_|refine c_dec_f rfl (by first|omega|exact fun h => h rfl|fail) ?_|refine cBl ?_|refine cSk ?_|refine x_block ?_|refine l_dec_f rfl rfl rfl rfl rfl (by first|omega|fail) ?_|fail)
 refine c_loop (ι := Nat) (fun i => i <= cl.length) (fun i => [(0, .int .i64 n), (1, .slice A cl.length cap), (5, .int .i64 ((cl.take i).getLastD 0)), (26, .slice A cl.length cap), (27, .int .i64 cl.length), (28, .int .i64 i)]) (fun _ => []) (fun i => cl.length - i) 0 (Nat.zero_le _) (by repeat (first|exact .nil|refine .cons rfl (by first|rfl|(congr 1; done)|exact congrArg _ (by omega)|(simp; done)) ?_)) (by repeat (first|exact .nil|refine .keep (by first|rfl|assumption) ?_|refine .drop ?_|exact MSub.refl _)) ?_
 intro i hi
 by_cases hlt : i < cl.length
 ·obtain ⟨c, hc⟩ : ∃ c, cl[i]? = some c := ⟨_, List.getElem?_eq_getElem hlt⟩
  obtain ⟨b, o, rfl, hx⟩ := hg i c hc
  have hlast := incN_take hc h3
  have hcl := h4 c (List.mem_of_getElem? hc)
  have hnx : (cl.take (i + 1)).getLastD 0 = c := by rw [List.take_add_one, hc]; simp
  obtain ⟨la, hla⟩ : ∃ la, (cl.take i).getLastD 0 = la := ⟨_, rfl⟩
  rw [hla] at hlast ⊢
  repeat (first|refine lVa rfl rfl (v_shlA rfl rfl (by omega) hsh) ?_|refine lVa rfl rfl (by first|exact v_add rfl rfl (by omega) (by omega)|exact pEv rfl|exact vL0 rfl (by assumption) rfl (by rfl)|exact v_index rfl rfl rfl rfl (by omega) (by omega) (by with_reducible first|exact idx2 _ _|fail)|fail) ?_|refine lNi ?_|refine cRg ?_|refine cSq ?_|refine xTh ?_|refine c_dec_t rfl (by first|omega|fail) ?_|refine c_dec_f rfl (by first|omega|exact fun h => h rfl|fail) ?_|refine cBl ?_|refine cSk ?_|refine x_block ?_|refine l_dec_f rfl rfl rfl rfl rfl (by first|omega|fail) ?_|fail)
  exact x_back (i + 1) hlt (by omega) (by rw [hnx]; exact (by repeat (first|exact .nil|refine .cons rfl (by first|rfl|(congr 1; done)|exact congrArg _ (by omega)|(simp; done)) ?_))) (by repeat (first|exact .nil|refine .keep (by first|rfl|assumption) ?_|refine .drop ?_|exact MSub.refl _))
 have hie : i = cl.length := by omega
 subst hie
 rw [List.take_length]
 obtain ⟨la, hla⟩ : ∃ la, cl.getLastD 0 = la := ⟨_, rfl⟩
 rw [hla] at h5 ⊢
 have h5' : 1 < n -> (la : Int) = (P : Int) - 1 := fun g => by
  rcases h5 with g2 | g2
  ·omega
  ·rw [g2]; exact hfu
 clear h5
 have hpos : ∀ c ∈ cl, 0 < c /\ c < 64 := fun c hc => by
  obtain ⟨i, hi⟩ := List.getElem?_of_mem hc
  have := incN_take hi h3
  have := h4 c hc
  omega
 have hpar : ∀ c ∈ cl, ∃ a b : Nat, prtV (prt cl c) = .tuple ⟨[.int .i64 a, .int .i64 b, .bool true]⟩ := fun c hc => by
  obtain ⟨⟨a, b⟩, he⟩ := Option.isSome_iff_exists.1 (h6 c hc)
  exact ⟨a, b, by rw [he]; rfl⟩
 have hcl6 : cl.length <= 1000 := by omega
 have hpc : ∀ c ∈ cl, ∀ (mem : List (Nat × Obj)) (W : World), SatW w (base w) noJ mem W -> Calls Tryz.prog 52 ⟨[.slice A cl.length cap, .int .i64 c]⟩ W fun e w' => e = .returned (prtV (prt cl c)) /\ Below W.heap.size W w' := fun c hc mem W hW => parts_calls A cap cl c W (hA.sat hW) hcl6 (hpos c hc).2 (hpos c hc).1
 clear h1 h3 h4 h6 hpos
 by_cases hn1 : 1 < n
 ·have h5' := h5' hn1
  repeat (first|refine lVa rfl rfl (v_shlA rfl rfl (by omega) hsh) ?_|refine lVa rfl rfl (by first|exact v_sub rfl rfl (by omega) (by omega)|exact pEv rfl|fail) ?_|refine lNi ?_|refine cRg ?_|refine cSq ?_|refine xTh ?_|refine c_dec_f rfl (by first|omega|fail) ?_|refine cBl ?_|refine cSk ?_|refine c_exit ?_|refine xTe ?_|refine xBs ?_|refine l_dec_t rfl rfl rfl rfl rfl (by first|omega|fail) ?_|fail)
  refine c_loop (ι := Nat) (fun i => i <= cl.length) (fun i => [(1, .slice A cl.length cap), (52, .slice A cl.length cap), (53, .int .i64 cl.length), (54, .int .i64 i)]) (fun _ => []) (fun i => cl.length - i) 0 (Nat.zero_le _) (by repeat (first|exact .nil|refine .cons rfl (by first|rfl|(congr 1; done)|exact congrArg _ (by omega)|(simp; done)) ?_)) (by repeat (first|exact .nil|refine .keep (by first|rfl|assumption) ?_|refine .drop ?_|exact MSub.refl _)) ?_
  intro i hi
  by_cases hlt : i < cl.length
  ·obtain ⟨c, hc⟩ : ∃ c, cl[i]? = some c := ⟨_, List.getElem?_eq_getElem hlt⟩
   obtain ⟨b, o, rfl, hx⟩ := hg i c hc
   obtain ⟨pa, pb, hpv⟩ := hpar c (List.mem_of_getElem? hc)
   repeat (first|refine lVa rfl rfl (by first|exact pEv rfl|exact vL0 rfl (by assumption) rfl (by rfl)|exact v_index rfl rfl rfl rfl (by omega) (by omega) (by with_reducible first|exact idx2 _ _|fail)|fail) ?_|refine lNi ?_|refine cRg ?_|refine cSq ?_|refine xTh ?_|refine c_dec_t rfl (by first|omega|fail) ?_|refine cBl ?_|refine cSk ?_|fail)
   refine r_call rfl rfl rfl (fun W hW => hpc c (List.mem_of_getElem? hc) _ W hW) ?_
   rw [hpv]
   repeat (first|refine lVa rfl rfl (by first|exact v_add rfl rfl (by omega) (by omega)|exact pEv rfl|fail) ?_|refine lNi ?_|refine cRg ?_|refine cSq ?_|refine xTh ?_|refine c_false rfl ?_|refine cSk ?_|refine x_block ?_|fail)
   exact x_back (i + 1) hlt (by omega) (by repeat (first|exact .nil|refine .cons rfl (by first|rfl|(congr 1; done)|exact congrArg _ (by omega)|(simp; done)) ?_)) (by repeat (first|exact .nil|refine .keep (by first|rfl|assumption) ?_|refine .drop ?_|exact MSub.refl _))
  ·repeat (first|refine lVa rfl rfl (by first|exact pEv rfl|fail) ?_|refine lNi ?_|refine cRg ?_|refine cSq ?_|refine xTh ?_|refine c_dec_f rfl (by first|omega|fail) ?_|refine c_ret ?_|refine c_exit ?_|refine xTe ?_|refine xBs ?_|fail)
   exact x_ret rfl rfl (by repeat constructor) rfl (fun W hW => ⟨rfl, hW.below⟩)
 ·clear h5'
  repeat (first|refine lVa rfl rfl (by first|exact pEv rfl|fail) ?_|refine lNi ?_|refine cRg ?_|refine cSq ?_|refine xTh ?_|refine l_skip rfl rfl ?_|refine c_false rfl ?_|refine c_dec_f rfl (by first|omega|fail) ?_|refine cBl ?_|refine cSk ?_|refine c_exit ?_|refine xTe ?_|refine xBs ?_|refine l_dec_f rfl rfl rfl rfl rfl (by first|omega|fail) ?_|fail)
  refine c_loop (ι := Nat) (fun i => i <= cl.length) (fun i => [(1, .slice A cl.length cap), (52, .slice A cl.length cap), (53, .int .i64 cl.length), (54, .int .i64 i)]) (fun _ => []) (fun i => cl.length - i) 0 (Nat.zero_le _) (by repeat (first|exact .nil|refine .cons rfl (by first|rfl|(congr 1; done)|exact congrArg _ (by omega)|(simp; done)) ?_)) (by repeat (first|exact .nil|refine .keep (by first|rfl|assumption) ?_|refine .drop ?_|exact MSub.refl _)) ?_
  intro i hi
  by_cases hlt : i < cl.length
  ·obtain ⟨c, hc⟩ : ∃ c, cl[i]? = some c := ⟨_, List.getElem?_eq_getElem hlt⟩
   obtain ⟨b, o, rfl, hx⟩ := hg i c hc
   obtain ⟨pa, pb, hpv⟩ := hpar c (List.mem_of_getElem? hc)
   repeat (first|refine lVa rfl rfl (by first|exact pEv rfl|exact vL0 rfl (by assumption) rfl (by rfl)|exact v_index rfl rfl rfl rfl (by omega) (by omega) (by with_reducible first|exact idx2 _ _|fail)|fail) ?_|refine lNi ?_|refine cRg ?_|refine cSq ?_|refine xTh ?_|refine c_dec_t rfl (by first|omega|fail) ?_|refine cBl ?_|refine cSk ?_|fail)
   refine r_call rfl rfl rfl (fun W hW => hpc c (List.mem_of_getElem? hc) _ W hW) ?_
   rw [hpv]
   repeat (first|refine lVa rfl rfl (by first|exact v_add rfl rfl (by omega) (by omega)|exact pEv rfl|fail) ?_|refine lNi ?_|refine cRg ?_|refine cSq ?_|refine xTh ?_|refine c_false rfl ?_|refine cSk ?_|refine x_block ?_|fail)
   exact x_back (i + 1) hlt (by omega) (by repeat (first|exact .nil|refine .cons rfl (by first|rfl|(congr 1; done)|exact congrArg _ (by omega)|(simp; done)) ?_)) (by repeat (first|exact .nil|refine .keep (by first|rfl|assumption) ?_|refine .drop ?_|exact MSub.refl _))
  ·repeat (first|refine lVa rfl rfl (by first|exact pEv rfl|fail) ?_|refine lNi ?_|refine cRg ?_|refine cSq ?_|refine xTh ?_|refine c_dec_f rfl (by first|omega|fail) ?_|refine c_ret ?_|refine c_exit ?_|refine xTe ?_|refine xBs ?_|fail)
   exact x_ret rfl rfl (by repeat constructor) rfl (fun W hW => ⟨rfl, hW.below⟩)
end R41
end Go.Proofs

set_option maxRecDepth 100000
set_option maxHeartbeats 400000000
namespace Go.Proofs
open Go.RowKit Go.Kin Go.Kin.Se
namespace R41
theorem kind82_calls (x : Int) (w : World) : Calls Tryz.prog 82 ⟨[.int .i64 x]⟩ w fun e w' => e = .returned (.int .i64 (if x = 0 then 1 else 0)) /\ Below w.heap.size w w' := by
 refine fEn Tryz.func82 rfl Tryz.ntmps82 rfl rfl (sWn w) ?_
 by_cases h : x = 0
 ·rw [if_pos h]
  repeat (first|refine lVa rfl rfl (by first|exact pEv rfl|fail) ?_|refine lNi ?_|refine cRg ?_|refine cSq ?_|refine xTh ?_|refine c_dec_t rfl (by first|omega|fail) ?_|refine c_ret ?_|refine xTr ?_|fail)
  exact x_ret rfl rfl (by repeat constructor) rfl (fun W hW => ⟨rfl, hW.below⟩)
 ·rw [if_neg h]
  repeat (first|refine lVa rfl rfl (by first|exact pEv rfl|fail) ?_|refine lNi ?_|refine cRg ?_|refine cSq ?_|refine xTh ?_|refine c_dec_f rfl (by first|omega|fail) ?_|refine cSk ?_|refine c_ret ?_|fail)
  exact x_ret rfl rfl (by repeat constructor) rfl (fun W hW => ⟨rfl, hW.below⟩)
theorem steps83_calls (w : World) : Calls Tryz.prog 83 ⟨[]⟩ w fun e w' => e = .returned (.agg ⟨[.int .i64 2, .int .i64 1, .int .i64 4, .int .i64 0]⟩) /\ Below w.heap.size w w' := by
 refine fEn Tryz.func83 rfl Tryz.ntmps83 rfl rfl (sWn w) ?_
 repeat (first|refine lVa rfl rfl (by first|exact v_buildA rfl rfl rfl (by rfl)|fail) ?_|refine lNi ?_|refine cRg ?_|refine cSq ?_|refine xTh ?_|refine r_alloc rfl rfl rfl (by first|exact aggL|fail) (fun _ => ?_)|refine rSt rfl rfl rfl rfl rfl rfl rfl (by repeat constructor) (by rfl) ?_|refine c_ret ?_|fail)
 exact x_ret rfl rfl (by repeat constructor) rfl (fun W hW => ⟨rfl, hW.below⟩)
theorem step_calls (f t : Int) (w : World) : Calls Tryz.prog 70 ⟨[.int .i64 f, .int .i64 t]⟩ w fun e w' => e = .returned (.int .i64 (stp f t)) /\ Below w.heap.size w w' := by
 refine fEn Tryz.func70 rfl Tryz.ntmps70 rfl rfl (sWn w) ?_
 by_cases h : f = t
 ·have hs : stp f t = 0 := if_pos h
  rw [hs]
  repeat (first|refine lVa rfl rfl (by first|exact pEv rfl|fail) ?_|refine lNi ?_|refine cRg ?_|refine cSq ?_|refine xTh ?_|refine c_dec_t rfl (by first|omega|fail) ?_|refine c_ret ?_|refine xTr ?_|fail)
  exact x_ret rfl rfl (by repeat constructor) rfl (fun W hW => ⟨rfl, hW.below⟩)
 have hk : ∀ (x : Int) (mem : List (Nat × Obj)) (W : World), SatW w (base w) noJ mem W -> Calls Tryz.prog 82 ⟨[] ++ [.int .i64 x] ++ []⟩ W fun e W' => e = .returned (.int .i64 (if x = 0 then 1 else 0)) /\ SatW w (base w) noJ mem W' := fun x mem W hW => (kind82_calls x W).mono fun e W' ⟨h1, h2⟩ => ⟨h1, hW.later h2⟩
 repeat (first|refine lVa rfl rfl (by first|exact pEv rfl|fail) ?_|refine lNi ?_|refine cRg ?_|refine cSq ?_|refine xTh ?_|refine c_dec_f rfl (by first|omega|fail) ?_|refine cSk ?_|refine c_reads rfl (by decide +kernel) ?_|fail)
 refine q_call rfl rfl rfl (fun W hW => steps83_calls W) ?_
 repeat (first|refine q_val rfl rfl (by first|exact pEv rfl|fail) ?_|fail)
 refine q_callvJ rfl rfl rfl rfl rfl (fun W hW => hk f _ W hW) ?_
 by_cases h1 : f = 0
 ·rw [if_pos h1]
  by_cases h2 : t = 0
  ·exact absurd (h1.trans h2.symm) h
  have hs : stp f t = 4 := by unfold stp; rw [if_neg h, if_neg h2, if_pos h1]
  refine q_val rfl rfl (v_ix rfl rfl rfl rfl (by decide) (by decide) rfl) ?_
  repeat (first|refine q_val rfl rfl (by first|exact pEv rfl|fail) ?_|fail)
  refine q_callvJ rfl rfl rfl rfl rfl (fun W hW => hk t _ W hW) ?_
  rw [if_neg h2]
  refine q_val rfl rfl (v_ix rfl rfl rfl rfl (by decide) (by decide) rfl) ?_
  repeat (first|refine xTh ?_|refine c_ret ?_|refine q_val rfl rfl (by first|exact pEv rfl|fail) ?_|refine q_nil ?_|fail)
  exact x_ret rfl rfl (by repeat constructor) rfl (fun W hW => ⟨by rw [hs]; rfl, hW.below⟩)
 ·rw [if_neg h1]
  refine q_val rfl rfl (v_ix rfl rfl rfl rfl (by decide) (by decide) rfl) ?_
  repeat (first|refine q_val rfl rfl (by first|exact pEv rfl|fail) ?_|fail)
  refine q_callvJ rfl rfl rfl rfl rfl (fun W hW => hk t _ W hW) ?_
  by_cases h2 : t = 0
  ·have hs : stp f t = 1 := by unfold stp; rw [if_neg h, if_pos h2]
   rw [if_pos h2]
   refine q_val rfl rfl (v_ix rfl rfl rfl rfl (by decide) (by decide) rfl) ?_
   repeat (first|refine xTh ?_|refine c_ret ?_|refine q_val rfl rfl (by first|exact pEv rfl|fail) ?_|refine q_nil ?_|fail)
   exact x_ret rfl rfl (by repeat constructor) rfl (fun W hW => ⟨by rw [hs]; rfl, hW.below⟩)
  ·have hs : stp f t = 2 := by unfold stp; rw [if_neg h, if_neg h2, if_neg h1]
   rw [if_neg h2]
   refine q_val rfl rfl (v_ix rfl rfl rfl rfl (by decide) (by decide) rfl) ?_
   repeat (first|refine xTh ?_|refine c_ret ?_|refine q_val rfl rfl (by first|exact pEv rfl|fail) ?_|refine q_nil ?_|fail)
   exact x_ret rfl rfl (by repeat constructor) rfl (fun W hW => ⟨by rw [hs]; rfl, hW.below⟩)
theorem min57_calls (A : Option Addr) (cap : Nat) (l : List Nat) (w : World) (hA : Kin.At w A 1 (l.map nE)) (hne : l ≠ []) (hl : l.length <= 100000) (hb : ∀ x ∈ l, x <= 1000000) :
  Calls Tryz.prog 57 ⟨[.slice A l.length cap]⟩ w fun e w' => e = .returned (.int .i64 (mn l)) /\ Below w.heap.size w w' := by
 have hlp : 0 < l.length := List.length_pos_iff.2 hne
 obtain ⟨x0, hx0⟩ : ∃ x, l[0]? = some x := ⟨_, List.getElem?_eq_getElem hlp⟩
 have hg : ∀ (i c : Nat), l[i]? = some c -> ∃ b o, A = some ⟨b, o, none⟩ /\ Ext w (base w) b (o + i) [.int .i64 c] := fun i c hi => by
  obtain ⟨b, o, e, hc⟩ := hA i (nE c) (by simp [hi])
  refine ⟨b, o, e, ?_⟩
  have := ext_of hc
  rwa [Nat.mul_one] at this
 obtain ⟨bA, oA, rfl, e0⟩ := hg 0 x0 hx0
 rw [Nat.add_zero] at e0
 refine fEn Tryz.func57 rfl Tryz.ntmps57 rfl rfl (sWn w) ?_
 repeat (first|refine lVa rfl rfl (by first|exact pEv rfl|exact vL0 rfl (by assumption) rfl (by rfl)|exact v_index rfl rfl rfl rfl (by omega) (by omega) (by with_reducible first|exact idx6 _ _|fail)|fail) ?_|refine lNi ?_|refine cRg ?_|refine cSq ?_|refine xTh ?_|refine c_dec_f rfl (by first|omega|fail) ?_|refine cBl ?_|refine cSk ?_|fail)
 refine c_loop (ι := Nat × Nat) (fun s => s.1 <= l.length /\ 1 <= s.1 /\ s.2 ∈ l /\ ∀ x ∈ l.take s.1, s.2 <= x) (fun s => [(0, .slice (some ⟨bA, oA, none⟩) l.length cap), (3, .int .i64 s.2), (4, .int .i64 s.1)]) (fun _ => []) (fun s => l.length - s.1) (1, x0) ⟨hlp, Nat.le_refl _, List.mem_of_getElem? hx0, fun x hx => by
  have : l.take 1 = [x0] := by
   cases l with
   | nil => cases hx0
   | cons y l => cases hx0; rfl
  rw [this] at hx
  rw [List.mem_singleton.1 hx]; exact Nat.le_refl _⟩ (by repeat (first|exact .nil|refine .cons rfl (by first|rfl|(congr 1; done)|exact congrArg _ (by omega)|(simp; done)) ?_)) (by repeat (first|exact .nil|refine .keep (by first|rfl|assumption) ?_|refine .drop ?_|exact MSub.refl _)) ?_
 rintro ⟨i, m⟩ ⟨h1, h2, h3, h4⟩
 simp only at h1 h2 h3 h4 ⊢
 have hmb := hb m h3
 by_cases hlt : i < l.length
 ·obtain ⟨y, hy⟩ : ∃ y, l[i]? = some y := ⟨_, List.getElem?_eq_getElem hlt⟩
  obtain ⟨b, o, e, ex⟩ := hg i y hy
  cases e
  have hyb := hb y (List.mem_of_getElem? hy)
  have hmc : min (m : Int) (y : Int) = ((min m y : Nat) : Int) := by omega
  repeat (first|refine lVa rfl rfl (by first|exact v_add rfl rfl (by omega) (by omega)|exact pEv rfl|exact vL0 rfl (by assumption) rfl (by rfl)|exact v_index rfl rfl rfl rfl (by omega) (by omega) (by with_reducible first|exact idx2 _ _|fail)|fail) ?_|refine lNi ?_|refine cRg ?_|refine cSq ?_|refine xTh ?_|refine c_dec_t rfl (by first|omega|fail) ?_|refine cBl ?_|refine cSk ?_|refine x_block ?_|fail)
  rw [hmc]
  refine x_back (i + 1, min m y) ⟨hlt, by simp only; omega, ?_, fun x hx => ?_⟩ (by simp only; omega) (by repeat (first|exact .nil|refine .cons rfl (by first|rfl|(congr 1; done)|exact congrArg _ (by omega)|(simp; done)) ?_)) (by repeat (first|exact .nil|refine .keep (by first|rfl|assumption) ?_|refine .drop ?_|exact MSub.refl _))
  ·simp only
   by_cases h : m <= y
   ·rw [Nat.min_eq_left h]; exact h3
   ·rw [Nat.min_eq_right (by omega)]; exact List.mem_of_getElem? hy
  ·simp only at hx ⊢
   rw [List.take_add_one, hy] at hx
   rcases List.mem_append.1 hx with h | h
   ·have := h4 x h; omega
   ·rw [List.mem_singleton.1 h]; omega
 ·have hie : i = l.length := by omega
  rw [hie, List.take_length] at h4
  have hmn : mn l = m := mn_eq h3 h4
  repeat (first|refine lVa rfl rfl (by first|exact pEv rfl|fail) ?_|refine lNi ?_|refine cRg ?_|refine cSq ?_|refine xTh ?_|refine c_dec_f rfl (by first|omega|fail) ?_|refine c_ret ?_|refine c_exit ?_|refine xTe ?_|refine xBs ?_|fail)
  exact x_ret rfl rfl (by repeat constructor) rfl (fun W hW => ⟨by rw [hmn], hW.below⟩)
theorem leastN_calls (A : Option Addr) (cap : Nat) (l : List Nat) (w : World) (hA : Kin.At w A 1 (l.map nE)) (hne : l ≠ []) (hl : l.length <= 100000) (hb : ∀ x ∈ l, x <= 1000000) :
  Calls Tryz.prog 71 ⟨[.slice A l.length cap]⟩ w fun e w' => e = .returned (.int .i64 (mn l)) /\ Below w.heap.size w w' := by
 refine fEn Tryz.func71 rfl Tryz.ntmps71 rfl rfl (sWn w) ?_
 repeat (first|refine lVa rfl rfl (by first|exact pEv rfl|fail) ?_|refine lNi ?_|refine cRg ?_|refine cSq ?_|refine xTh ?_|fail)
 refine r_call rfl rfl rfl (fun W hW => min57_calls A cap l W (hA.sat hW) hne hl hb) ?_
 repeat (first|refine lVa rfl rfl (by first|exact pEv rfl|fail) ?_|refine lNi ?_|refine xTh ?_|refine c_ret ?_|fail)
 exact x_ret rfl rfl (by repeat constructor) rfl (fun W hW => ⟨rfl, hW.below⟩)
end R41
end Go.Proofs
