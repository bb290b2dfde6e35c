/- The iterator over a network's steps, walked. -/
import Derived.Test.YtcodoembnjemkaaGreatTy
import Derived.Test.YtcodoembnjemkaaGreatEng6
import Derived.Test.YtcodoembnjemkaaGreatStAcc
import Derived.Test.YtcodoembnjemkaaGreatEng8
set_option linter.unusedSectionVars false
set_option linter.unusedVariables false
set_option linter.unusedSimpArgs false
namespace Go.Proofs
open Go.RowKit Go.Kin Go.Kin.St
namespace R22
def lkE (x : Lk) : List Value := [.int .i64 x.fr, .int .i64 x.to, .int .i64 x.lo, .int .i64 x.hi]
/-- A step as the iterator yields it. -/
structure RS where
 i : Nat
 lower : Bool
 a : Int
 b : Int
 w : Int
def rawFrom : Nat -> List Lk -> List RS
 | _, [] => []
 | i, x :: l => ⟨i, false, x.fr, x.to, x.hi⟩ :: ⟨i, true, x.to, x.fr, -x.lo⟩ :: rawFrom (i + 1) l
def raw (l : List Lk) : List RS := rawFrom 0 l
def rsE (s : RS) : List Value := [.agg ⟨[.int .i64 s.i, .bool s.lower]⟩, .agg ⟨[.int .i64 s.a, .int .i64 s.b, .int .i64 s.w]⟩]

theorem rawFrom_len (i : Nat) (l : List Lk) : (rawFrom i l).length = 2 * l.length := by
 induction l generalizing i with
 | nil => rfl
 | cons x l ih => simp only [rawFrom, List.length_cons, ih]; omega
theorem rawFrom_get (i : Nat) (l : List Lk) (k : Nat) (x : Lk) (h : l[k]? = some x) :
  (rawFrom i l)[2 * k]? = some ⟨i + k, false, x.fr, x.to, x.hi⟩ /\ (rawFrom i l)[2 * k + 1]? = some ⟨i + k, true, x.to, x.fr, -x.lo⟩ := by
 induction l generalizing i k with
 | nil => cases h
 | cons y l ih =>
  cases k with
  | zero => cases h; exact ⟨rfl, rfl⟩
  | succ k =>
   have := ih (i + 1) k h
   rw [show 2 * (k + 1) = 2 * k + 1 + 1 by omega, show i + (k + 1) = i + 1 + k by omega]
   exact this
theorem raw_len (l : List Lk) : (raw l).length = 2 * l.length := rawFrom_len 0 l
theorem raw_get {l : List Lk} {k : Nat} {x : Lk} (h : l[k]? = some x) :
  (raw l)[2 * k]? = some ⟨k, false, x.fr, x.to, x.hi⟩ /\ (raw l)[2 * k + 1]? = some ⟨k, true, x.to, x.fr, -x.lo⟩ := by
 have := rawFrom_get 0 l k x h
 rw [Nat.zero_add] at this
 exact this

def netCells (n : Int) (A : Option Addr) (len cap : Nat) : List Value := [.int .i64 n, .slice A len cap]

theorem steps_calls (n : Int) (A : Option Addr) (len cap : Nat) (w : World) :
  Calls Tryz.prog 83 ⟨[.agg ⟨netCells n A len cap⟩]⟩ w fun e w' => ∃ b, e = .returned (.func (.func 97) ⟨[]⟩ ⟨[.pointer (some ⟨b, 0, none⟩)]⟩) /\ Below w.heap.size w w' /\ w.heap.size <= b /\ w'.heap[b]? = some (.cells ⟨netCells n A len cap⟩ 90 (0, 0)) := by
 refine fEn Tryz.func83 rfl Tryz.ntmps83 rfl rfl (sWn w) ?_
 repeat (first|refine lVa rfl rfl (by first|exact pEv rfl|fail) ?_|refine lNi ?_|refine cRg ?_|refine cSq ?_|refine xTh ?_|refine r_box rfl rfl rfl rfl (fun _ => ?_)|refine c_ret ?_|fail)
 refine x_ret rfl rfl (by repeat constructor) rfl (fun W hW => ?_)
 have h := hW.own _ (by repeat constructor)
 exact ⟨_, rfl, hW.below, Nat.le_of_not_lt h.1, h.2⟩

theorem steps_it (R : Nat -> Prop) (b : Nat) (n : Int) (A : Option Addr) (cap : Nat) (l : List Lk) (W : World) (hl : l.length <= 1000) (hbox : W.heap[b]? = some (.cells ⟨netCells n A l.length cap⟩ 90 (0, 0))) (hA : At W A 4 (l.map lkE)) (hF : Fine n l) (hn : n <= 64)
  (hR : ∀ k, R k -> k < W.heap.size) (hRb : R b) (hRA : ∀ a, A = some a -> l ≠ [] -> R a.block) :
  It Tryz.prog 97 [.pointer (some ⟨b, 0, none⟩)] rsE (raw l) R W := by
 intro lp J Jx cJ cJx hy h0
 have hb : Ext W R b 0 (netCells n A l.length cap) := ⟨hRb, fun i v hi => by
  unfold World.cell?; rw [hbox, Nat.zero_add]; simpa using hi⟩
 have hs : SatW W R (J 0) [] W := ⟨Same.refl _ _, hR, List.nodup_nil, fun p hp => (by cases hp), cJ 0, cJ 0 _ _ _ _ h0 (Same.refl _ _) fun b hb => (by cases hb)⟩
 refine fEn Tryz.func97 rfl Tryz.ntmps97 rfl rfl hs ?_
 repeat (first|refine lVa rfl rfl (by first|exact pEv rfl|exact vLe rfl (by assumption) rfl (by rfl)|fail) ?_|refine lNi ?_|refine cRg ?_|refine cSq ?_|refine xTh ?_|refine cBl ?_|fail)
 refine c_loopD (ι := Nat) (fun k => k <= l.length) (fun _ => []) (fun k => J (2 * k)) (fun k => [(0, .func (.yield lp) ⟨[]⟩ ⟨[]⟩), (6, .slice A l.length cap), (7, .int .i64 l.length), (8, .int .i64 k)]) (fun _ => []) (fun k => l.length - k) 0 (by omega) rfl rfl (by repeat (first|exact .nil|refine .cons rfl (by first|rfl|(congr 1; done)|exact congrArg _ (by omega)|(simp; done)) ?_)) (by repeat (first|exact .nil|refine .keep (by first|rfl|assumption) ?_|refine .drop ?_|exact MSub.refl _)) ?_
 intro k hk
 by_cases hlt : k < l.length
 ·obtain ⟨x, hx⟩ : ∃ x, l[k]? = some x := ⟨_, List.getElem?_eq_getElem hlt⟩
  obtain ⟨b', o, rfl, hc⟩ := hA k (lkE x) (by simp [hx])
  have he : Ext W R b' (o + k * 4) (lkE x) := ⟨hRA _ rfl (fun e => by subst e; simp at hlt), hc⟩
  have hf := hF x (List.mem_of_getElem? hx)
  unfold Lk.Fine at hf
  obtain ⟨g1, g2⟩ := raw_get hx
  have hlen := raw_len l
  have e1 : (raw l)[2 * k]'(by omega) = ⟨k, false, x.fr, x.to, x.hi⟩ := (List.getElem?_eq_some_iff.1 g1).2
  have e2 : (raw l)[2 * k + 1]'(by omega) = ⟨k, true, x.to, x.fr, -x.lo⟩ := (List.getElem?_eq_some_iff.1 g2).2
  repeat (first|refine lVa rfl rfl (by first|exact pEv rfl|exact vLd rfl (by repeat constructor) rfl (by rfl)|exact vL0 rfl (by assumption) rfl (by rfl)|exact v_index rfl rfl rfl rfl (by omega) (by omega) (by with_reducible first|exact idx4 _ _ _|fail)|exact v_build rfl rfl (by rfl)|fail) ?_|refine lNi ?_|refine cRg ?_|refine cSq ?_|refine xTh ?_|refine r_alloc rfl rfl rfl (by first|exact aggL|fail) (fun _ => ?_)|refine rSt rfl rfl rfl rfl rfl rfl rfl (by repeat constructor) (by rfl) ?_|refine c_dec_t rfl (by first|omega|fail) ?_|refine cBl ?_|refine cSk ?_|fail)
  refine l_yield rfl rfl rfl rfl rfl (cJ (2 * k + 1)) (cJx (2 * k)) (fun S A hj hS => by have := hy (2 * k) (by omega) S A hj hS; rw [e1] at this; exact this) ?_ (fun W0 => ?_)
  ·repeat (first|refine lVa rfl rfl (by first|exact v_neg rfl (by omega) (by omega)|exact pEv rfl|exact vLd rfl (by repeat constructor) rfl (by rfl)|exact v_build rfl rfl (by rfl)|fail) ?_|fail)
   refine l_yield rfl rfl rfl rfl rfl (cJ (2 * k + 1 + 1)) (cJx (2 * k + 1)) (fun S A hj hS => by have := hy (2 * k + 1) (by omega) S A hj hS; rw [e2] at this; exact this) ?_ (fun W0 => ?_)
   ·repeat (first|refine lVa rfl rfl (by first|exact v_add rfl rfl (by omega) (by omega)|exact pEv rfl|fail) ?_|refine lNi ?_|refine cRg ?_|refine xTh ?_|refine c_false rfl ?_|refine cSk ?_|refine x_block ?_|fail)
    exact x_backD (k + 1) (by omega) (by omega) rfl rfl (by repeat (first|exact .nil|refine .cons rfl (by first|rfl|(congr 1; done)|exact congrArg _ (by omega)|(simp; done)) ?_)) (by repeat (first|exact .nil|refine .keep (by first|rfl|assumption) ?_|refine .drop ?_|exact MSub.refl _))
   ·repeat (first|refine lVa rfl rfl (by first|exact pEv rfl|fail) ?_|refine lNi ?_|refine xTh ?_|refine c_true rfl ?_|refine c_ret ?_|refine xTr ?_|refine xBr ?_|fail)
    exact x_ret rfl rfl (by repeat constructor) rfl (fun W hW => ⟨⟨_, rfl⟩, .inr ⟨2 * k + 1, by omega, _, hW.word⟩⟩)
  ·repeat (first|refine lVa rfl rfl (by first|exact pEv rfl|exact v_build rfl rfl (by rfl)|fail) ?_|refine lNi ?_|refine xTh ?_|refine l_skip rfl rfl ?_|refine c_true rfl ?_|refine c_ret ?_|refine xTr ?_|refine xBr ?_|fail)
   exact x_ret rfl rfl (by repeat constructor) rfl (fun W hW => ⟨⟨_, rfl⟩, .inr ⟨2 * k, by omega, _, hW.word⟩⟩)
 ·have hkl : k = l.length := by omega
  subst hkl
  have hlen := raw_len l
  repeat (first|refine lVa rfl rfl (by first|exact pEv rfl|fail) ?_|refine lNi ?_|refine cRg ?_|refine cSq ?_|refine xTh ?_|refine c_dec_f rfl (by first|omega|fail) ?_|refine c_exit ?_|refine xTe ?_|refine xBs ?_|fail)
  exact x_end rfl rfl (by repeat constructor) rfl (fun W hW => ⟨⟨_, rfl⟩, .inl ⟨_, by rw [hlen]; exact hW.word⟩⟩)
/-- What the iterator reads: its box, and the links that came in. -/
def Rd (w : World) (b : Nat) : Nat -> Prop := fun k => base w k ∨ k = b

/-- the steps' iterator, at whatever world of the range -/
theorem it_of {w W W1 : World} {J : (Nat -> Prop) -> World -> Prop} {mem : List (Nat × Obj)} {b : Nat} {n : Int} {A : Option Addr} {cap : Nat} {l : List Lk} (hl : l.length <= 1000) (hA : At w A 4 (l.map lkE)) (hF : Fine n l) (hn : n <= 64)
  (hm : SatW w (base w) J mem W) (hb : (b, Obj.cells ⟨netCells n A l.length cap⟩ 90 (0, 0)) ∈ mem) (hs : Same (fun _ => True) W W1) : It Tryz.prog 97 [.pointer (some ⟨b, 0, none⟩)] rsE (raw l) (Rd w b) W1 := by
 have hlt := hm.lt hb
 simp only at hlt
 have hsz := hs.size
 refine steps_it (Rd w b) b n A cap l W1 hl (hs.obj (hm.own _ hb).2 trivial) ((hA.sat hm).later (hs.below (Nat.le_refl _) fun _ _ => trivial)) hF hn ?_ (.inr rfl) ?_
 ·rintro k (hk | rfl)
  ·have := hm.same.size; unfold base at hk; omega
  ·omega
 ·intro a ha hne
  obtain ⟨x, l', rfl⟩ := List.exists_cons_of_ne_nil hne
  obtain ⟨b', o, h1, h2⟩ := hA 0 (lkE x) rfl
  rw [ha] at h1
  cases h1
  exact .inl (lt_of_cell (h2 0 _ rfl))
end R22
end Go.Proofs

namespace Go.Proofs
open Go.RowKit Go.Kin Go.Kin.St
namespace R22
/-- What Check answers. -/
def chk (n : Int) (l : List Lk) : Int := if n < 1 ∨ 64 < n then 1 else if 256 < l.length then 2 else if Fine n l then 0 else 220
theorem chk_1 {n : Int} {l : List Lk} (h : n < 1 ∨ 64 < n) : chk n l = 1 := if_pos h
theorem chk_2 {n : Int} {l : List Lk} (h : ¬ (n < 1 ∨ 64 < n)) (h2 : 256 < l.length) : chk n l = 2 := by unfold chk; rw [if_neg h, if_pos h2]
theorem chk_0 {n : Int} {l : List Lk} (h : ¬ (n < 1 ∨ 64 < n)) (h2 : ¬ 256 < l.length) (h3 : Fine n l) : chk n l = 0 := by unfold chk; rw [if_neg h, if_neg h2, if_pos h3]
theorem chk_220 {n : Int} {l : List Lk} (h : ¬ (n < 1 ∨ 64 < n)) (h2 : ¬ 256 < l.length) (h3 : ¬ Fine n l) : chk n l = 220 := by unfold chk; rw [if_neg h, if_neg h2, if_neg h3]

theorem right_calls (n : Int) (A : Option Addr) (cap : Nat) (l : List Lk) (w : World) (hl : l.length <= 1000) (hA : At w A 4 (l.map lkE)) :
  Calls Tryz.prog 94 ⟨[.int .i64 n, .slice A l.length cap]⟩ w fun e w' => e = .returned (.bool (decide (Fine n l))) /\ Below w.heap.size w w' := by
 refine fEn Tryz.func94 rfl Tryz.ntmps94 rfl rfl (sWn w) ?_
 repeat (first|refine lVa rfl rfl (by first|exact pEv rfl|fail) ?_|refine lNi ?_|refine cRg ?_|refine cSq ?_|refine xTh ?_|refine cBl ?_|fail)
 refine c_loop (ι := Nat) (fun k => k <= l.length /\ ∀ x ∈ l.take k, x.Fine n) (fun k => [(0, .int .i64 n), (1, .slice A l.length cap), (5, .int .i64 k)]) (fun _ => []) (fun k => l.length - k) 0 ⟨by omega, by simp⟩ (by repeat (first|exact .nil|refine .cons rfl (by first|rfl|(congr 1; done)|exact congrArg _ (by omega)|(simp; done)) ?_)) (by repeat (first|exact .nil|refine .keep (by first|rfl|assumption) ?_|refine .drop ?_|exact MSub.refl _)) ?_
 rintro k ⟨hk, hF⟩
 by_cases hlt : k < l.length
 ·obtain ⟨x, hx⟩ : ∃ x, l[k]? = some x := ⟨_, List.getElem?_eq_getElem hlt⟩
  obtain ⟨b, o, rfl, hc⟩ := hA k (lkE x) (by simp [hx])
  have he := ext_of hc
  have hin : x ∈ l := List.mem_of_getElem? hx
  repeat' (first|refine lVa rfl rfl (by first|exact v_add rfl rfl (by omega) (by omega)|exact pEv rfl|exact vLd rfl (by repeat constructor) rfl (by rfl)|exact vL0 rfl (by assumption) rfl (by rfl)|exact v_index rfl rfl rfl rfl (by omega) (by omega) (by with_reducible first|exact idx4 _ _ _|fail)|fail) ?_|refine lNi ?_|refine cRg ?_|refine cSq ?_|refine xTh ?_|refine l_skip rfl rfl ?_|refine r_alloc rfl rfl rfl (by first|exact aggL|fail) (fun _ => ?_)|refine rSt rfl rfl rfl rfl rfl rfl rfl (by repeat constructor) (by rfl) ?_|refine c_true rfl ?_|refine c_dec_t rfl (by first|omega|fail) ?_|refine cBl ?_|refine cSk ?_|refine c_ret ?_|refine xTr ?_|refine x_block ?_|refine xBr ?_|refine l_dec rfl rfl rfl rfl rfl (fun _ => ?_) (fun _ => ?_)|refine c_dec rfl (fun _ => ?_) (fun _ => ?_)|fail)
  all_goals first
   | (refine x_ret rfl rfl (by repeat constructor) rfl (fun W hW => ⟨?_, hW.below⟩)
      have hno : ¬ Fine n l := fun h => by have := h x hin; unfold Lk.Fine at this; omega
      rw [decide_eq_false hno])
   | (refine x_back (k + 1) ⟨hlt, ?_⟩ (by omega) (by repeat (first|exact .nil|refine .cons rfl (by first|rfl|(congr 1; done)|exact congrArg _ (by omega)|(simp; done)) ?_)) (by repeat (first|exact .nil|refine .keep (by first|rfl|assumption) ?_|refine .drop ?_|exact MSub.refl _))
      intro y hy
      rw [List.take_add_one, hx] at hy
      rcases List.mem_append.1 hy with h | h
      ·exact hF y h
      ·simp only [Option.toList_some, List.mem_singleton] at h
       rw [h]; unfold Lk.Fine; omega)
 ·have hkl : k = l.length := by omega
  subst hkl
  rw [List.take_length] at hF
  repeat' (first|refine lVa rfl rfl (by first|exact pEv rfl|fail) ?_|refine lNi ?_|refine cRg ?_|refine cSq ?_|refine xTh ?_|refine c_dec_f rfl (by first|omega|fail) ?_|refine c_ret ?_|refine c_exit ?_|refine xTe ?_|refine xBs ?_|fail)
  refine x_ret rfl rfl (by repeat constructor) rfl (fun W hW => ⟨?_, hW.below⟩)
  have hyes : Fine n l := hF
  rw [decide_eq_true hyes]

theorem rcheck_calls (n : Int) (A : Option Addr) (cap : Nat) (l : List Lk) (w : World) (hl : l.length <= 1000) (hA : At w A 4 (l.map lkE)) :
  Calls Tryz.prog 76 ⟨[.agg ⟨netCells n A l.length cap⟩]⟩ w fun e w' => e = .returned (.int .i64 (chk n l)) /\ Below w.heap.size w w' := by
 refine fEn Tryz.func76 rfl Tryz.ntmps76 rfl rfl (sWn w) ?_
 repeat' (first|refine lVa rfl rfl (by first|exact pEv rfl|exact vLd rfl (by repeat constructor) rfl (by rfl)|fail) ?_|refine lNi ?_|refine cRg ?_|refine cSq ?_|refine xTh ?_|refine l_skip rfl rfl ?_|refine r_box rfl rfl rfl rfl (fun _ => ?_)|refine c_true rfl ?_|refine cSk ?_|refine c_ret ?_|refine xTr ?_|refine l_dec rfl rfl rfl rfl rfl (fun _ => ?_) (fun _ => ?_)|refine c_dec rfl (fun _ => ?_) (fun _ => ?_)|fail)
 ·refine x_ret rfl rfl (by repeat constructor) rfl (fun W hW => ⟨?_, hW.below⟩)
  rw [chk_1 (.inl (by assumption))]
 ·refine x_ret rfl rfl (by repeat constructor) rfl (fun W hW => ⟨?_, hW.below⟩)
  rw [chk_1 (.inr (by assumption))]
 ·refine x_ret rfl rfl (by repeat constructor) rfl (fun W hW => ⟨?_, hW.below⟩)
  rw [chk_2 (by omega) (by omega)]
 ·refine r_call rfl rfl rfl (fun W hW => right_calls n A cap l W hl (hA.sat hW)) ?_
  by_cases hf : Fine n l
  ·rw [decide_eq_true hf]
   repeat (first|refine lVa rfl rfl (by first|exact pEv rfl|fail) ?_|refine lNi ?_|refine cRg ?_|refine cSq ?_|refine xTh ?_|refine c_false rfl ?_|refine cSk ?_|refine c_ret ?_|fail)
   refine x_ret rfl rfl (by repeat constructor) rfl (fun W hW => ⟨?_, hW.below⟩)
   rw [chk_0 (by omega) (by omega) hf]
  ·rw [decide_eq_false hf]
   repeat (first|refine lVa rfl rfl (by first|exact pEv rfl|fail) ?_|refine lNi ?_|refine cRg ?_|refine cSq ?_|refine xTh ?_|refine c_true rfl ?_|refine c_ret ?_|refine xTr ?_|fail)
   refine x_ret rfl rfl (by repeat constructor) rfl (fun W hW => ⟨?_, hW.below⟩)
   rw [chk_220 (by omega) (by omega) hf]

theorem check_calls (n : Int) (A : Option Addr) (cap : Nat) (l : List Lk) (w : World) (hl : l.length <= 1000) (hA : At w A 4 (l.map lkE)) :
  Calls Tryz.prog 82 ⟨[.agg ⟨netCells n A l.length cap⟩]⟩ w fun e w' => e = .returned (.int .i64 (chk n l)) /\ Below w.heap.size w w' := by
 refine fEn Tryz.func82 rfl Tryz.ntmps82 rfl rfl (sWn w) ?_
 repeat' (first|refine lVa rfl rfl (by first|exact pEv rfl|exact vLd rfl (by repeat constructor) rfl (by rfl)|fail) ?_|refine lNi ?_|refine cRg ?_|refine cSq ?_|refine xTh ?_|refine l_skip rfl rfl ?_|refine r_box rfl rfl rfl rfl (fun _ => ?_)|refine c_true rfl ?_|refine cBl ?_|refine cSk ?_|refine c_ret ?_|refine xTr ?_|refine x_block ?_|refine xBr ?_|refine l_dec rfl rfl rfl rfl rfl (fun _ => ?_) (fun _ => ?_)|refine c_dec rfl (fun _ => ?_) (fun _ => ?_)|fail)
 ·refine x_ret rfl rfl (by repeat constructor) rfl (fun W hW => ⟨?_, hW.below⟩)
  rw [chk_1 (.inl (by assumption))]
 ·refine x_ret rfl rfl (by repeat constructor) rfl (fun W hW => ⟨?_, hW.below⟩)
  rw [chk_1 (.inr (by assumption))]
 ·refine x_ret rfl rfl (by repeat constructor) rfl (fun W hW => ⟨?_, hW.below⟩)
  rw [chk_2 (by omega) (by omega)]
 ·rename_i b h1 h2 h3
  refine c_loop (ι := Nat) (fun k => k <= l.length /\ ∀ x ∈ l.take k, x.Fine n) (fun k => [(1, .pointer (some ⟨b, 0, none⟩)), (20, .slice A l.length cap), (21, .int .i64 l.length), (22, .int .i64 k)])
   (fun _ => [(b, .cells ⟨netCells n A l.length cap⟩ 90 (0, 0))]) (fun k => l.length - k) 0 ⟨by omega, by simp⟩ (by repeat (first|exact .nil|refine .cons rfl (by first|rfl|(congr 1; done)|exact congrArg _ (by omega)|(simp; done)) ?_)) (by repeat (first|exact .nil|refine .keep (by first|rfl|assumption) ?_|refine .drop ?_|exact MSub.refl _)) ?_
  rintro k ⟨hk, hF⟩
  by_cases hlt : k < l.length
  ·obtain ⟨x, hx⟩ : ∃ x, l[k]? = some x := ⟨_, List.getElem?_eq_getElem hlt⟩
   obtain ⟨b, o, rfl, hc⟩ := hA k (lkE x) (by simp [hx])
   have he := ext_of hc
   have hin : x ∈ l := List.mem_of_getElem? hx
   repeat' (first|refine lVa rfl rfl (by first|exact v_add rfl rfl (by omega) (by omega)|exact pEv rfl|exact vLd rfl (by repeat constructor) rfl (by rfl)|exact vL0 rfl (by assumption) rfl (by rfl)|exact v_index rfl rfl rfl rfl (by omega) (by omega) (by with_reducible first|exact idx4 _ _ _|fail)|fail) ?_|refine lNi ?_|refine cRg ?_|refine cSq ?_|refine xTh ?_|refine l_skip rfl rfl ?_|refine r_alloc rfl rfl rfl (by first|exact aggL|fail) (fun _ => ?_)|refine rSt rfl rfl rfl rfl rfl rfl rfl (by repeat constructor) (by rfl) ?_|refine c_true rfl ?_|refine c_dec_t rfl (by first|omega|fail) ?_|refine cBl ?_|refine cSk ?_|refine c_ret ?_|refine xTr ?_|refine x_block ?_|refine xBr ?_|refine l_dec rfl rfl rfl rfl rfl (fun _ => ?_) (fun _ => ?_)|refine c_dec rfl (fun _ => ?_) (fun _ => ?_)|fail)
   all_goals first
    | (refine x_ret rfl rfl (by repeat constructor) rfl (fun W hW => ⟨?_, hW.below⟩)
       have hno : ¬ Fine n l := fun h => by have := h x hin; unfold Lk.Fine at this; omega
       rw [chk_220 (by omega) (by omega) hno])
    | (refine x_back (k + 1) ⟨hlt, ?_⟩ (by omega) (by repeat (first|exact .nil|refine .cons rfl (by first|rfl|(congr 1; done)|exact congrArg _ (by omega)|(simp; done)) ?_)) (by repeat (first|exact .nil|refine .keep (by first|rfl|assumption) ?_|refine .drop ?_|exact MSub.refl _))
       intro y hy
       rw [List.take_add_one, hx] at hy
       rcases List.mem_append.1 hy with h | h
       ·exact hF y h
       ·simp only [Option.toList_some, List.mem_singleton] at h
        rw [h]; unfold Lk.Fine; omega)
  ·have hkl : k = l.length := by omega
   subst hkl
   rw [List.take_length] at hF
   repeat' (first|refine lVa rfl rfl (by first|exact pEv rfl|fail) ?_|refine lNi ?_|refine cRg ?_|refine cSq ?_|refine xTh ?_|refine c_dec_f rfl (by first|omega|fail) ?_|refine c_ret ?_|refine c_exit ?_|refine xTe ?_|refine xBs ?_|fail)
   refine x_ret rfl rfl (by repeat constructor) rfl (fun W hW => ⟨?_, hW.below⟩)
   have hyes : Fine n l := hF
   rw [chk_0 (by omega) (by omega) hyes]
end R22
end Go.Proofs

namespace Go.Proofs
open Go.RowKit Go.Kin Go.Kin.St
namespace R22
def tf (t : List Int) : Nat -> Int := fun i => t.getD i 0
def lkB (t : List Int) (x : Lk) : Bool := decide (x.lo <= tf t x.to.toNat - tf t x.fr.toNat /\ tf t x.to.toNat - tf t x.fr.toNat <= x.hi)
def metB (l : List Lk) (t : List Int) : Bool := l.all (lkB t)
def inE (v : Int) : List Value := [.int .i64 v]
/-- times as they come in -/
def Tm (t : List Int) : Prop := ∀ v ∈ t, 0 <= v /\ v <= 1152921504606846976

theorem at_int {w : World} {T : Option Addr} {t : List Int} {i : Int} (h : At w T 1 (t.map inE)) (h0 : 0 <= i) (hi : i < t.length) :
  ∃ b o, T = some ⟨b, o, none⟩ /\ Ext w (base w) b (o + i.toNat) [.int .i64 (tf t i.toNat)] := by
 have hg : t[i.toNat]? = some (tf t i.toNat) := by unfold tf; rw [List.getD_eq_getElem?_getD, List.getElem?_eq_getElem (by omega)]; rfl
 obtain ⟨b, o, hT, hc⟩ := h i.toNat (inE (tf t i.toNat)) (by simp [hg])
 exact ⟨b, o, hT, ext_of (by rw [Nat.mul_one] at hc; exact hc)⟩
theorem tf_in {t : List Int} (h : Tm t) (i : Nat) : 0 <= tf t i /\ tf t i <= 1152921504606846976 := by
 unfold tf
 rw [List.getD_eq_getElem?_getD]
 cases hg : t[i]? with
 | none => simp
 | some v => exact h v (List.mem_of_getElem? hg)


def tmB (t : List Int) : Bool := t.all fun v => decide (0 <= v /\ v <= 1152921504606846976)
theorem tmB_iff (t : List Int) : tmB t = true ↔ Tm t := by simp [tmB, Tm]
/-- as the law asks -/
def schB (n : Int) (l : List Lk) (t : List Int) : Bool := decide ((t.length : Int) = n) && (tmB t && metB l t)


end R22
end Go.Proofs

namespace Go.Proofs
open Go.RowKit Go.Kin Go.Kin.St
namespace R22
/-- What Meets answers. -/
def mtB (n : Int) (l : List Lk) (t : List Int) : Bool := decide (chk n l = 0) && schB n l t
def mtE (n : Int) (l : List Lk) (t : List Int) : Int := if chk n l ≠ 0 then chk n l else if (t.length : Int) ≠ n ∨ ¬ tmB t = true then 1 else 0
theorem mt_bad {n : Int} {l : List Lk} {t : List Int} (h : chk n l ≠ 0) : mtB n l t = false /\ mtE n l t = chk n l := by
 unfold mtB mtE; rw [decide_eq_false h, if_pos h]; exact ⟨rfl, rfl⟩
theorem mt_arg {n : Int} {l : List Lk} {t : List Int} (h : chk n l = 0) (h2 : (t.length : Int) ≠ n ∨ ¬ tmB t = true) : mtB n l t = false /\ mtE n l t = 1 := by
 unfold mtB mtE schB; rw [if_neg (by simp [h]), if_pos h2]
 refine ⟨?_, rfl⟩
 rcases h2 with h2 | h2
 ·simp [h2]
 ·simp [h2]
theorem mt_ok {n : Int} {l : List Lk} {t : List Int} (h : chk n l = 0) (h2 : (t.length : Int) = n) (h3 : tmB t = true) : mtB n l t = metB l t /\ mtE n l t = 0 := by
 unfold mtB mtE schB; rw [if_neg (by simp [h]), if_neg (by simp [h2, h3])]
 exact ⟨by simp [h, h2, h3], rfl⟩
theorem chk_fine {n : Int} {l : List Lk} (h : chk n l = 0) : 1 <= n /\ n <= 64 /\ l.length <= 256 /\ Fine n l := by
 by_cases h1 : n < 1 ∨ 64 < n
 ·rw [chk_1 h1] at h; omega
 ·by_cases h2 : 256 < l.length
  ·rw [chk_2 h1 h2] at h; omega
  ·by_cases h3 : Fine n l
   ·exact ⟨by omega, by omega, by omega, h3⟩
   ·rw [chk_220 h1 h2 h3] at h; omega

def mtV (n : Int) (l : List Lk) (t : List Int) : Value := .tuple ⟨[.bool (mtB n l t), .int .i64 (mtE n l t)]⟩


theorem raw_fine {n : Int} {l : List Lk} (h : Fine n l) {k : Nat} {s : RS} (hs : (raw l)[k]? = some s) : 0 <= s.a /\ s.a < n /\ 0 <= s.b /\ s.b < n /\ s.a ≠ s.b /\ -1099511627776 <= s.w /\ s.w <= 1099511627776 := by
 have hlen := raw_len l
 have hk : k < (raw l).length := (List.getElem?_eq_some_iff.1 hs).1
 have hi : k / 2 < l.length := by omega
 have hf := h _ (List.getElem_mem hi)
 unfold Lk.Fine at hf
 obtain ⟨g1, g2⟩ := raw_get (List.getElem?_eq_getElem hi)
 rcases Nat.mod_two_eq_zero_or_one k with h2 | h2
 ·rw [show k = 2 * (k / 2) by omega, g1] at hs
  cases hs
  simp only; omega
 ·rw [show k = 2 * (k / 2) + 1 by omega, g2] at hs
  cases hs
  simp only; omega

/-- a step holds of times -/
def rsB (t : List Int) (s : RS) : Bool := decide (tf t s.b.toNat - tf t s.a.toNat <= s.w)
theorem metB_raw (l : List Lk) (t : List Int) : metB l t = (raw l).all (rsB t) := by
 have : ∀ i, (rawFrom i l).all (rsB t) = metB l t := by
  induction l with
  | nil => intro i; rfl
  | cons x l ih =>
   intro i
   simp only [rawFrom, List.all_cons, ih, metB, rsB, lkB]
   rw [<- Bool.and_assoc]
   congr 1
   rw [<- Bool.decide_and]
   congr 1
   apply propext; omega
 rw [raw, this]

theorem Meets_calls (n : Int) (A T : Option Addr) (cap capT : Nat) (l : List Lk) (t : List Int) (w : World) (hl : l.length <= 1000) (ht : t.length <= 1000) (hA : At w A 4 (l.map lkE)) (hT : At w T 1 (t.map inE)) :
  Calls Tryz.prog 51 ⟨[.agg ⟨netCells n A l.length cap⟩, .slice T t.length capT]⟩ w fun e w' => e = .returned (mtV n l t) /\ Below w.heap.size w w' := by
 refine fEn Tryz.func51 rfl Tryz.ntmps51 rfl rfl (sWn w) ?_
 repeat (first|refine lVa rfl rfl (by first|exact vLd rfl (by repeat constructor) rfl (by rfl)|fail) ?_|refine lNi ?_|refine cRg ?_|refine cSq ?_|refine xTh ?_|refine r_box rfl rfl rfl rfl (fun _ => ?_)|refine r_alloc rfl rfl rfl (by first|exact aggL|fail) (fun _ => ?_)|fail)
 refine r_call rfl rfl rfl (fun W hW => check_calls n A cap l W hl (hA.sat hW)) ?_
 repeat' (first|refine lVa rfl rfl (by first|exact pEv rfl|exact vLd rfl (by repeat constructor) rfl (by rfl)|fail) ?_|refine lNi ?_|refine cRg ?_|refine cSq ?_|refine xTh ?_|refine rSt rfl rfl rfl rfl rfl rfl rfl (by repeat constructor) (by rfl) ?_|refine cBl ?_|refine cSk ?_|refine c_ret ?_|refine xTr ?_|refine c_dec rfl (fun _ => ?_) (fun _ => ?_)|fail)
 ·rename_i b1 b2 b3 b4 h1
  refine c_any rfl ?_; repeat' (first|refine a_done (by decide +kernel) ?_|refine a_one (i := 0) (by decide +kernel) (op_val rfl rfl rfl rfl (by first|exact vLd rfl (by repeat constructor) rfl (by rfl)|fail) ?_)|refine a_one (i := 1) (by decide +kernel) (op_do rfl rfl rfl (by first|exact d_store rfl rfl rfl rfl rfl rfl (by repeat constructor) (by rfl)|fail) ?_)|refine a_one (i := 2) (by decide +kernel) (op_do rfl rfl rfl (by first|exact d_store rfl rfl rfl rfl rfl rfl (by repeat constructor) (by rfl)|fail) ?_)|refine a_two (i := 0) (j := 1) (by decide +kernel) (op_val rfl rfl rfl rfl (by first|exact vLd rfl (by repeat constructor) rfl (by rfl)|fail) ?_) (op_do rfl rfl rfl (by first|exact d_store rfl rfl rfl rfl rfl rfl (by repeat constructor) (by rfl)|fail) ?_) )
  all_goals
   repeat (first|refine xTh ?_|refine c_ret ?_|refine xTr ?_|fail)
   refine x_ret rfl rfl (by repeat constructor) rfl (fun W hW => ⟨?_, hW.below⟩)
   unfold mtV; rw [(mt_bad h1).1, (mt_bad h1).2]
 ·rename_i b1 b2 b3 b4 h0 h1
  have h0 := Decidable.not_not.1 h0
  refine x_ret rfl rfl (by repeat constructor) rfl (fun W hW => ⟨?_, hW.below⟩)
  unfold mtV; rw [(mt_arg h0 (.inl h1)).1, (mt_arg h0 (.inl h1)).2]
 ·rename_i b1 b2 b3 b4 h0 h1
  have h0 := Decidable.not_not.1 h0
  have h1 := Decidable.not_not.1 h1
  obtain ⟨c1, c2, c3, hF⟩ := chk_fine h0
  refine c_loop (ι := Nat) (fun k => k <= t.length /\ ∀ v ∈ t.take k, 0 <= v /\ v <= 1152921504606846976) (fun k => [(2, .pointer (some ⟨b1, 0, none⟩)), (3, .pointer (some ⟨b2, 0, none⟩)), (4, .pointer (some ⟨b3, 0, none⟩)), (5, .pointer (some ⟨b4, 0, none⟩)),
    (20, .slice T t.length capT), (21, .int .i64 t.length), (22, .int .i64 k)])
   (fun _ => [(b4, .cells ⟨[.int .i64 (chk n l)]⟩ 29 (0, 0)), (b3, .cells ⟨[.bool false]⟩ 4 (0, 0)), (b2, .cells ⟨[.slice T t.length capT]⟩ 37 (0, 0)), (b1, .cells ⟨netCells n A l.length cap⟩ 90 (0, 0))]) (fun k => t.length - k) 0 ⟨by omega, by simp⟩ (by repeat (first|exact .nil|refine .cons rfl (by first|rfl|(congr 1; done)|exact congrArg _ (by omega)|(simp; done)) ?_)) (by repeat (first|exact .nil|refine .keep (by first|rfl|assumption) ?_|refine .drop ?_|exact MSub.refl _)) ?_
  rintro k ⟨hk, hM⟩
  by_cases hlt : k < t.length
  ·obtain ⟨b, o, rfl, he⟩ := at_int hT (i := k) (by omega) (by omega)
   simp only [Int.toNat_natCast] at he
   have hg : t[k]? = some (tf t k) := by unfold tf; rw [List.getD_eq_getElem?_getD, List.getElem?_eq_getElem hlt]; rfl
   repeat' (first|refine lVa rfl rfl (by first|exact v_add rfl rfl (by omega) (by omega)|exact pEv rfl|exact vL0 rfl (by assumption) rfl (by rfl)|exact v_index rfl rfl rfl rfl (by omega) (by omega) (by with_reducible first|exact idx2 _ _|fail)|fail) ?_|refine lNi ?_|refine cRg ?_|refine cSq ?_|refine xTh ?_|refine l_skip rfl rfl ?_|refine rSt rfl rfl rfl rfl rfl rfl rfl (by repeat constructor) (by rfl) ?_|refine c_true rfl ?_|refine c_dec_t rfl (by first|omega|fail) ?_|refine cBl ?_|refine cSk ?_|refine c_ret ?_|refine xTr ?_|refine x_block ?_|refine xBr ?_|refine l_dec rfl rfl rfl rfl rfl (fun _ => ?_) (fun _ => ?_)|refine c_dec rfl (fun _ => ?_) (fun _ => ?_)|fail)
   all_goals first
    | (refine x_ret rfl rfl (by repeat constructor) rfl (fun W hW => ⟨?_, hW.below⟩)
       have hno : ¬ tmB t = true := by
        intro h
        have := (tmB_iff t).1 h _ (List.mem_of_getElem? hg)
        omega
       unfold mtV; rw [(mt_arg h0 (.inr hno)).1, (mt_arg h0 (.inr hno)).2])
    | (refine x_back (k + 1) ⟨hlt, ?_⟩ (by omega) (by repeat (first|exact .nil|refine .cons rfl (by first|rfl|(congr 1; done)|exact congrArg _ (by omega)|(simp; done)) ?_)) (by repeat (first|exact .nil|refine .keep (by first|rfl|assumption) ?_|refine .drop ?_|exact MSub.refl _))
       intro y hy
       rw [List.take_add_one, hg] at hy
       rcases List.mem_append.1 hy with h | h
       ·exact hM y h
       ·simp only [Option.toList_some, List.mem_singleton] at h
        rw [h]; omega)
  ·have hkl : k = t.length := by omega
   subst hkl
   rw [List.take_length] at hM
   have hr : Tm t := hM
   repeat (first|refine lVa rfl rfl (by first|exact pEv rfl|exact vLd rfl (by repeat constructor) rfl (by rfl)|fail) ?_|refine lNi ?_|refine cRg ?_|refine cSq ?_|refine xTh ?_|refine c_dec_f rfl (by first|omega|fail) ?_|refine c_exit ?_|refine xTe ?_|refine xBs ?_|fail)
   refine r_call1 (ι := Nat) (bk := fun b => b) rfl rfl rfl (fun W hW => steps_calls n A l.length cap W) (fun b5 => ?_)
   repeat (first|refine lNi ?_|refine xTh ?_|refine cBl ?_|fail)
   refine c_range rsE (raw l) (Rd w b5) [(b5, .cells ⟨netCells n A l.length cap⟩ 90 (0, 0))] (ι := Option Nat) (fun o => o.getD 0) (fun o => ∃ k, o = some k /\ ∀ s ∈ (raw l).take k, rsB t s = true)
    (fun o => match o with
     | some _ => [(b4, .cells ⟨[.int .i64 (chk n l)]⟩ 29 (0, 0)), (b3, .cells ⟨[.bool false]⟩ 4 (0, 0)), (b2, .cells ⟨[.slice T t.length capT]⟩ 37 (0, 0))]
     | none => [(b4, .cells ⟨[.int .i64 0]⟩ 29 (0, 0)), (b3, .cells ⟨[.bool false]⟩ 4 (0, 0)), (b2, .cells ⟨[.slice T t.length capT]⟩ 37 (0, 0))])
    (fun c o => c = .ret /\ o = none /\ metB l t = false) (some 0) rfl (fun W W1 hW hs => it_of hl hA hF c2 hW (by repeat constructor) hs) (fun b hb => hb.imp id fun e => by simp [e]) (fun _ _ => rfl) (by decide) rfl ⟨0, rfl, by simp⟩ (by repeat (first|exact .nil|refine .keep (by first|rfl|assumption) ?_|refine .drop ?_|exact MSub.refl _))
    (env' := [(3, .pointer (some ⟨b2, 0, none⟩)), (4, .pointer (some ⟨b3, 0, none⟩)), (5, .pointer (some ⟨b4, 0, none⟩))]) (by repeat (first|exact .nil|refine .cons rfl (by first|rfl|(congr 1; done)|exact congrArg _ (by omega)|(simp; done)) ?_)) ?_ ?_ ?_
   ·rintro _ ⟨k, rfl, hI⟩ hk m lp W1 hW1 hDl hol
    simp only [Option.getD_some] at hk ⊢
    obtain ⟨s, hs⟩ : ∃ s, (raw l)[k] = s := ⟨_, rfl⟩
    have hs2 : (raw l)[k]? = some s := by rw [List.getElem?_eq_getElem hk, hs]
    rw [hs]
    have hf := raw_fine hF hs2
    repeat (first|refine lNi ?_|refine cRg ?_|refine r_alloc rfl rfl rfl (by first|exact aggL|fail) (fun _ => ?_)|refine rSt rfl rfl rfl rfl rfl rfl rfl (by repeat constructor) (by rfl) ?_|fail)
    refine x_body hW1 hDl hol (fun n2 W2 r hW2 hr2 ho => ?_)
    obtain ⟨c1, o1, rfl, e1⟩ := at_int hT (i := s.a) (by omega) (by omega)
    obtain ⟨c2, o2, h2, e2⟩ := at_int hT (i := s.b) (by omega) (by omega)
    cases h2
    have e1 := e1.into hW2
    have e2 := e2.into hW2
    have r1 := tf_in hr s.a.toNat
    have r2 := tf_in hr s.b.toNat
    repeat' (first|refine lNi ?_|refine cRg ?_|refine cSq ?_|refine xTh ?_|refine rSt rfl rfl rfl rfl rfl rfl rfl (by repeat constructor) (by rfl) ?_|refine cBl ?_|refine cSk ?_|refine c_ret ?_|refine x_block ?_|refine xBr ?_|refine c_reads rfl (by decide +kernel) ?_|refine q_val rfl rfl (by first|exact v_sub rfl rfl (by omega) (by omega)|exact pEv rfl|exact vLd rfl (by repeat constructor) rfl (by rfl)|exact vL0 rfl (by assumption) rfl (by rfl)|exact v_index rfl rfl rfl rfl (by omega) (by omega) (by with_reducible first|exact idx6 _ _|fail)|fail) ?_|refine q_nil ?_|refine c_dec rfl (fun _ => ?_) (fun _ => ?_)|fail)
    ·refine x_leave_ret none ⟨rfl, rfl, ?_⟩ (by repeat (first|exact .nil|refine .keep (by first|rfl|assumption) ?_|refine .drop ?_|exact MSub.refl _))
     rw [metB_raw, Bool.eq_false_iff]
     intro h
     have := List.all_eq_true.1 h s (List.mem_of_getElem? hs2)
     simp only [rsB, decide_eq_true_eq] at this
     omega
    ·refine x_next (some (k + 1)) rfl ⟨_, rfl, ?_⟩ (by repeat (first|exact .nil|refine .keep (by first|rfl|assumption) ?_|refine .drop ?_|exact MSub.refl _))
     intro y hy
     rw [List.take_add_one, hs2] at hy
     rcases List.mem_append.1 hy with h | h
     ·exact hI y h
     ·simp only [Option.toList_some, List.mem_singleton] at h
      rw [h]; simp only [rsB, decide_eq_true_eq]; omega
   ·rintro B _ hk ⟨k, rfl, hI⟩
    simp only [Option.getD_some] at hk
    subst hk
    rw [List.take_length] at hI
    have hm : metB l t = true := by rw [metB_raw]; exact List.all_eq_true.2 hI
    repeat (first|refine lNi ?_|refine cRg ?_|refine cSq ?_|refine xTh ?_|refine rSt rfl rfl rfl rfl rfl rfl rfl (by repeat constructor) (by rfl) ?_|refine c_ret ?_|refine x_block ?_|fail)
    refine x_rets (Ds := [B]) rfl rfl (by repeat (first|exact Split.nil|exact Split.all|apply Split.mark|apply Split.keep)) rfl (by repeat constructor) rfl (fun W hW => ⟨?_, hW.below⟩)
    unfold mtV; rw [(mt_ok h0 h1 ((tmB_iff t).2 hr)).1, (mt_ok h0 h1 ((tmB_iff t).2 hr)).2, hm]
   ·rintro B _ _ ⟨rfl, rfl, hm⟩
    repeat (first|refine c_ret ?_|refine xTr ?_|refine xBr ?_|fail)
    refine x_rets (Ds := [B]) rfl rfl (by repeat (first|exact Split.nil|exact Split.all|apply Split.mark|apply Split.keep)) rfl (by repeat constructor) rfl (fun W hW => ⟨?_, hW.below⟩)
    unfold mtV; rw [(mt_ok h0 h1 ((tmB_iff t).2 hr)).1, (mt_ok h0 h1 ((tmB_iff t).2 hr)).2, hm]
end R22
end Go.Proofs
