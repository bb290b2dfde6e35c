/- The iterator over a network's steps, walked. -/
import Derived.Test.YtcodoembnjemkaaGreatTy
import Derived.Test.YtcodoembnjemkaaGreatEng6
import Derived.Test.YtcodoembnjemkaaGreatStAcc
import Derived.Test.YtcodoembnjemkaaGreatEng8
set_option linter.unusedSectionVars false
set_option linter.unusedVariables false
set_option linter.unusedSimpArgs false
namespace Go.Proofs
open Go.RowKit Go.Kin Go.Kin.St
namespace R22
def lkE (x : Lk) : List Value := [.int .i64 x.fr, .int .i64 x.to, .int .i64 x.lo, .int .i64 x.hi]
/-- A step as the iterator yields it. -/
structure RS where
 i : Nat
 lower : Bool
 a : Int
 b : Int
 w : Int
def rawFrom : Nat -> List Lk -> List RS
 | _, [] => []
 | i, x :: l => ⟨i, false, x.fr, x.to, x.hi⟩ :: ⟨i, true, x.to, x.fr, -x.lo⟩ :: rawFrom (i + 1) l
def raw (l : List Lk) : List RS := rawFrom 0 l
def rsE (s : RS) : List Value := [.agg ⟨[.int .i64 s.i, .bool s.lower]⟩, .agg ⟨[.int .i64 s.a, .int .i64 s.b, .int .i64 s.w]⟩]

theorem rawFrom_len (i : Nat) (l : List Lk) : (rawFrom i l).length = 2 * l.length := by
 induction l generalizing i with
 | nil => rfl
 | cons x l ih => simp only [rawFrom, List.length_cons, ih]; omega
theorem rawFrom_get (i : Nat) (l : List Lk) (k : Nat) (x : Lk) (h : l[k]? = some x) :
  (rawFrom i l)[2 * k]? = some ⟨i + k, false, x.fr, x.to, x.hi⟩ /\ (rawFrom i l)[2 * k + 1]? = some ⟨i + k, true, x.to, x.fr, -x.lo⟩ := by
 induction l generalizing i k with
 | nil => cases h
 | cons y l ih =>
  cases k with
  | zero => cases h; exact ⟨rfl, rfl⟩
  | succ k =>
   have := ih (i + 1) k h
   rw [show 2 * (k + 1) = 2 * k + 1 + 1 by omega, show i + (k + 1) = i + 1 + k by omega]
   exact this
theorem raw_len (l : List Lk) : (raw l).length = 2 * l.length := rawFrom_len 0 l
theorem raw_get {l : List Lk} {k : Nat} {x : Lk} (h : l[k]? = some x) :
  (raw l)[2 * k]? = some ⟨k, false, x.fr, x.to, x.hi⟩ /\ (raw l)[2 * k + 1]? = some ⟨k, true, x.to, x.fr, -x.lo⟩ := by
 have := rawFrom_get 0 l k x h
 rw [Nat.zero_add] at this
 exact this

def netCells (n : Int) (A : Option Addr) (len cap : Nat) : List Value := [.int .i64 n, .slice A len cap]

theorem steps_calls (n : Int) (A : Option Addr) (len cap : Nat) (w : World) :
  Calls Tryz.prog 83 ⟨[.agg ⟨netCells n A len cap⟩]⟩ w fun e w' => ∃ b, e = .returned (.func (.func 97) ⟨[]⟩ ⟨[.pointer (some ⟨b, 0, none⟩)]⟩) /\ Below w.heap.size w w' /\ w.heap.size <= b /\ w'.heap[b]? = some (.cells ⟨netCells n A len cap⟩ 90 (0, 0)) := by
 refine fun_enter Tryz.func83 rfl Tryz.ntmps83 rfl rfl (satW_nil w) ?_
 repeat (first|refine l_val rfl rfl (by first|exact pureEval_ok rfl|fail) ?_|refine l_nil ?_|refine c_region ?_|refine c_seq ?_|refine x_then ?_|refine r_box rfl rfl rfl rfl (fun _ => ?_)|refine c_ret ?_|fail)
 refine x_ret rfl rfl (by repeat (first|exact .nil|(apply Res.tmp; rfl)|(apply Res.cell; rfl; exact (by repeat constructor); rfl; rfl))) rfl (fun W hW => ?_)
 have h := hW.own _ (by repeat constructor)
 exact ⟨_, rfl, hW.below, Nat.le_of_not_lt h.1, h.2⟩

theorem steps_it (R : Nat -> Prop) (b : Nat) (n : Int) (A : Option Addr) (cap : Nat) (l : List Lk) (W : World) (hl : l.length <= 1000) (hbox : W.heap[b]? = some (.cells ⟨netCells n A l.length cap⟩ 90 (0, 0))) (hA : At W A 4 (l.map lkE)) (hF : Fine n l) (hn : n <= 64)
  (hR : ∀ k, R k -> k < W.heap.size) (hRb : R b) (hRA : ∀ a, A = some a -> l ≠ [] -> R a.block) :
  It Tryz.prog 97 [.pointer (some ⟨b, 0, none⟩)] rsE (raw l) R W := by
 intro lp J Jx cJ cJx hy h0
 have hb : Ext W R b 0 (netCells n A l.length cap) := ⟨hRb, fun i v hi => by
  unfold World.cell?; rw [hbox, Nat.zero_add]; simpa using hi⟩
 have hs : SatW W R (J 0) [] W := ⟨Same.refl _ _, hR, List.nodup_nil, fun p hp => (by cases hp), cJ 0, cJ 0 _ _ _ _ h0 (Same.refl _ _) fun b hb => (by cases hb)⟩
 refine fun_enter Tryz.func97 rfl Tryz.ntmps97 rfl rfl hs ?_
 repeat (first|refine l_val rfl rfl (by first|exact pureEval_ok rfl|exact v_load_ext rfl (by assumption) rfl (by rfl)|fail) ?_|refine l_nil ?_|refine c_region ?_|refine c_seq ?_|refine x_then ?_|refine c_block ?_|fail)
 refine c_loopD (ι := Nat) (fun k => k <= l.length) (fun _ => []) (fun k => J (2 * k)) (fun k => [(0, .func (.yield lp) ⟨[]⟩ ⟨[]⟩), (6, .slice A l.length cap), (7, .int .i64 l.length), (8, .int .i64 k)]) (fun _ => []) (fun k => l.length - k) 0 (by omega) rfl rfl (by repeat (first|exact .nil|refine .cons rfl (by first|rfl|(congr 1; done)|exact congrArg _ (by omega)|(simp; done)) ?_)) (by repeat (first|exact .nil|refine .keep (by first|rfl|assumption) ?_|refine .drop ?_|exact MSub.refl _)) ?_
 intro k hk
 by_cases hlt : k < l.length
 ·obtain ⟨x, hx⟩ : ∃ x, l[k]? = some x := ⟨_, List.getElem?_eq_getElem hlt⟩
  obtain ⟨b', o, rfl, hc⟩ := hA k (lkE x) (by simp [hx])
  have he : Ext W R b' (o + k * 4) (lkE x) := ⟨hRA _ rfl (fun e => by subst e; simp at hlt), hc⟩
  have hf := hF x (List.mem_of_getElem? hx)
  unfold Lk.Fine at hf
  obtain ⟨g1, g2⟩ := raw_get hx
  have hlen := raw_len l
  have e1 : (raw l)[2 * k]'(by omega) = ⟨k, false, x.fr, x.to, x.hi⟩ := (List.getElem?_eq_some_iff.1 g1).2
  have e2 : (raw l)[2 * k + 1]'(by omega) = ⟨k, true, x.to, x.fr, -x.lo⟩ := (List.getElem?_eq_some_iff.1 g2).2
  repeat (first|refine l_val rfl rfl (by first|exact pureEval_ok rfl|exact v_load rfl (by repeat constructor) rfl (by rfl)|exact v_load_ext0 rfl (by assumption) rfl (by rfl)|exact v_index rfl rfl rfl rfl (by omega) (by omega) (by with_reducible first|exact idx4 _ _ _|fail)|exact v_build rfl rfl (by rfl)|fail) ?_|refine l_nil ?_|refine c_region ?_|refine c_seq ?_|refine x_then ?_|refine r_alloc rfl rfl rfl (by first|exact aggL|fail) (fun _ => ?_)|refine r_store rfl rfl rfl rfl rfl rfl rfl (by repeat constructor) (by rfl) ?_|refine c_dec_t rfl (by first|omega|fail) ?_|refine c_block ?_|refine c_skip ?_|fail)
  refine l_yield rfl rfl rfl rfl rfl (cJ (2 * k + 1)) (cJx (2 * k)) (fun S A hj hS => by have := hy (2 * k) (by omega) S A hj hS; rw [e1] at this; exact this) ?_ (fun W0 => ?_)
  ·repeat (first|refine l_val rfl rfl (by first|exact v_neg rfl (by omega) (by omega)|exact pureEval_ok rfl|exact v_load rfl (by repeat constructor) rfl (by rfl)|exact v_build rfl rfl (by rfl)|fail) ?_|fail)
   refine l_yield rfl rfl rfl rfl rfl (cJ (2 * k + 1 + 1)) (cJx (2 * k + 1)) (fun S A hj hS => by have := hy (2 * k + 1) (by omega) S A hj hS; rw [e2] at this; exact this) ?_ (fun W0 => ?_)
   ·repeat (first|refine l_val rfl rfl (by first|exact v_add rfl rfl (by omega) (by omega)|exact pureEval_ok rfl|fail) ?_|refine l_nil ?_|refine c_region ?_|refine x_then ?_|refine c_false rfl ?_|refine c_skip ?_|refine x_block ?_|fail)
    exact x_backD (k + 1) (by omega) (by omega) rfl rfl (by repeat (first|exact .nil|refine .cons rfl (by first|rfl|(congr 1; done)|exact congrArg _ (by omega)|(simp; done)) ?_)) (by repeat (first|exact .nil|refine .keep (by first|rfl|assumption) ?_|refine .drop ?_|exact MSub.refl _))
   ·repeat (first|refine l_val rfl rfl (by first|exact pureEval_ok rfl|fail) ?_|refine l_nil ?_|refine x_then ?_|refine c_true rfl ?_|refine c_ret ?_|refine x_then_ret ?_|refine x_block_ret ?_|fail)
    exact x_ret rfl rfl (by repeat (first|exact .nil|(apply Res.tmp; rfl)|(apply Res.cell; rfl; exact (by repeat constructor); rfl; rfl))) rfl (fun W hW => ⟨⟨_, rfl⟩, .inr ⟨2 * k + 1, by omega, _, hW.word⟩⟩)
  ·repeat (first|refine l_val rfl rfl (by first|exact pureEval_ok rfl|exact v_build rfl rfl (by rfl)|fail) ?_|refine l_nil ?_|refine x_then ?_|refine l_skip rfl rfl ?_|refine c_true rfl ?_|refine c_ret ?_|refine x_then_ret ?_|refine x_block_ret ?_|fail)
   exact x_ret rfl rfl (by repeat (first|exact .nil|(apply Res.tmp; rfl)|(apply Res.cell; rfl; exact (by repeat constructor); rfl; rfl))) rfl (fun W hW => ⟨⟨_, rfl⟩, .inr ⟨2 * k, by omega, _, hW.word⟩⟩)
 ·have hkl : k = l.length := by omega
  subst hkl
  have hlen := raw_len l
  repeat (first|refine l_val rfl rfl (by first|exact pureEval_ok rfl|fail) ?_|refine l_nil ?_|refine c_region ?_|refine c_seq ?_|refine x_then ?_|refine c_dec_f rfl (by first|omega|fail) ?_|refine c_exit ?_|refine x_then_exit ?_|refine x_block_same ?_|fail)
  exact x_end rfl rfl (by repeat (first|exact .nil|(apply Res.tmp; rfl)|(apply Res.cell; rfl; exact (by repeat constructor); rfl; rfl))) rfl (fun W hW => ⟨⟨_, rfl⟩, .inl ⟨_, by rw [hlen]; exact hW.word⟩⟩)
/-- What the iterator reads: its box, and the links that came in. -/
def Rd (w : World) (b : Nat) : Nat -> Prop := fun k => base w k ∨ k = b

/-- the steps' iterator, at whatever world of the range -/
theorem it_of {w W W1 : World} {J : (Nat -> Prop) -> World -> Prop} {mem : List (Nat × Obj)} {b : Nat} {n : Int} {A : Option Addr} {cap : Nat} {l : List Lk} (hl : l.length <= 1000) (hA : At w A 4 (l.map lkE)) (hF : Fine n l) (hn : n <= 64)
  (hm : SatW w (base w) J mem W) (hb : (b, Obj.cells ⟨netCells n A l.length cap⟩ 90 (0, 0)) ∈ mem) (hs : Same (fun _ => True) W W1) : It Tryz.prog 97 [.pointer (some ⟨b, 0, none⟩)] rsE (raw l) (Rd w b) W1 := by
 have hlt := hm.lt hb
 simp only at hlt
 have hsz := hs.size
 refine steps_it (Rd w b) b n A cap l W1 hl (hs.obj (hm.own _ hb).2 trivial) ((hA.sat hm).later (hs.below (Nat.le_refl _) fun _ _ => trivial)) hF hn ?_ (.inr rfl) ?_
 ·rintro k (hk | rfl)
  ·have := hm.same.size; unfold base at hk; omega
  ·omega
 ·intro a ha hne
  obtain ⟨x, l', rfl⟩ := List.exists_cons_of_ne_nil hne
  obtain ⟨b', o, h1, h2⟩ := hA 0 (lkE x) rfl
  rw [ha] at h1
  cases h1
  exact .inl (lt_of_cell (h2 0 _ rfl))
end R22
end Go.Proofs

namespace Go.Proofs
open Go.RowKit Go.Kin Go.Kin.St
namespace R22
/-- What Check answers. -/
def chk (n : Int) (l : List Lk) : Int := if n < 1 ∨ 64 < n then 1 else if 256 < l.length then 2 else if Fine n l then 0 else 220
theorem chk_1 {n : Int} {l : List Lk} (h : n < 1 ∨ 64 < n) : chk n l = 1 := if_pos h
theorem chk_2 {n : Int} {l : List Lk} (h : ¬ (n < 1 ∨ 64 < n)) (h2 : 256 < l.length) : chk n l = 2 := by unfold chk; rw [if_neg h, if_pos h2]
theorem chk_0 {n : Int} {l : List Lk} (h : ¬ (n < 1 ∨ 64 < n)) (h2 : ¬ 256 < l.length) (h3 : Fine n l) : chk n l = 0 := by unfold chk; rw [if_neg h, if_neg h2, if_pos h3]
theorem chk_220 {n : Int} {l : List Lk} (h : ¬ (n < 1 ∨ 64 < n)) (h2 : ¬ 256 < l.length) (h3 : ¬ Fine n l) : chk n l = 220 := by unfold chk; rw [if_neg h, if_neg h2, if_neg h3]

theorem right_calls (n : Int) (A : Option Addr) (cap : Nat) (l : List Lk) (w : World) (hl : l.length <= 1000) (hA : At w A 4 (l.map lkE)) :
  Calls Tryz.prog 94 ⟨[.int .i64 n, .slice A l.length cap]⟩ w fun e w' => e = .returned (.bool (decide (Fine n l))) /\ Below w.heap.size w w' := by
 refine fun_enter Tryz.func94 rfl Tryz.ntmps94 rfl rfl (satW_nil w) ?_
 repeat (first|refine l_val rfl rfl (by first|exact pureEval_ok rfl|fail) ?_|refine l_nil ?_|refine c_region ?_|refine c_seq ?_|refine x_then ?_|refine c_block ?_|fail)
 refine c_loop (ι := Nat) (fun k => k <= l.length /\ ∀ x ∈ l.take k, x.Fine n) (fun k => [(0, .int .i64 n), (1, .slice A l.length cap), (5, .int .i64 k)]) (fun _ => []) (fun k => l.length - k) 0 ⟨by omega, by simp⟩ (by repeat (first|exact .nil|refine .cons rfl (by first|rfl|(congr 1; done)|exact congrArg _ (by omega)|(simp; done)) ?_)) (by repeat (first|exact .nil|refine .keep (by first|rfl|assumption) ?_|refine .drop ?_|exact MSub.refl _)) ?_
 rintro k ⟨hk, hF⟩
 by_cases hlt : k < l.length
 ·obtain ⟨x, hx⟩ : ∃ x, l[k]? = some x := ⟨_, List.getElem?_eq_getElem hlt⟩
  obtain ⟨b, o, rfl, hc⟩ := hA k (lkE x) (by simp [hx])
  have he := ext_of hc
  have hin : x ∈ l := List.mem_of_getElem? hx
  repeat' (first|refine l_val rfl rfl (by first|exact v_add rfl rfl (by omega) (by omega)|exact pureEval_ok rfl|exact v_load rfl (by repeat constructor) rfl (by rfl)|exact v_load_ext0 rfl (by assumption) rfl (by rfl)|exact v_index rfl rfl rfl rfl (by omega) (by omega) (by with_reducible first|exact idx4 _ _ _|fail)|fail) ?_|refine l_nil ?_|refine c_region ?_|refine c_seq ?_|refine x_then ?_|refine l_skip rfl rfl ?_|refine r_alloc rfl rfl rfl (by first|exact aggL|fail) (fun _ => ?_)|refine r_store rfl rfl rfl rfl rfl rfl rfl (by repeat constructor) (by rfl) ?_|refine c_true rfl ?_|refine c_dec_t rfl (by first|omega|fail) ?_|refine c_block ?_|refine c_skip ?_|refine c_ret ?_|refine x_then_ret ?_|refine x_block ?_|refine x_block_ret ?_|refine l_dec rfl rfl rfl rfl rfl (fun _ => ?_) (fun _ => ?_)|refine c_dec rfl (fun _ => ?_) (fun _ => ?_)|fail)
  all_goals first
   | (refine x_ret rfl rfl (by repeat (first|exact .nil|(apply Res.tmp; rfl)|(apply Res.cell; rfl; exact (by repeat constructor); rfl; rfl))) rfl (fun W hW => ⟨?_, hW.below⟩)
      have hno : ¬ Fine n l := fun h => by have := h x hin; unfold Lk.Fine at this; omega
      rw [decide_eq_false hno])
   | (refine x_back (k + 1) ⟨hlt, ?_⟩ (by omega) (by repeat (first|exact .nil|refine .cons rfl (by first|rfl|(congr 1; done)|exact congrArg _ (by omega)|(simp; done)) ?_)) (by repeat (first|exact .nil|refine .keep (by first|rfl|assumption) ?_|refine .drop ?_|exact MSub.refl _))
      intro y hy
      rw [List.take_add_one, hx] at hy
      rcases List.mem_append.1 hy with h | h
      ·exact hF y h
      ·simp only [Option.toList_some, List.mem_singleton] at h
       rw [h]; unfold Lk.Fine; omega)
 ·have hkl : k = l.length := by omega
  subst hkl
  rw [List.take_length] at hF
  repeat' (first|refine l_val rfl rfl (by first|exact pureEval_ok rfl|fail) ?_|refine l_nil ?_|refine c_region ?_|refine c_seq ?_|refine x_then ?_|refine c_dec_f rfl (by first|omega|fail) ?_|refine c_ret ?_|refine c_exit ?_|refine x_then_exit ?_|refine x_block_same ?_|fail)
  refine x_ret rfl rfl (by repeat (first|exact .nil|(apply Res.tmp; rfl)|(apply Res.cell; rfl; exact (by repeat constructor); rfl; rfl))) rfl (fun W hW => ⟨?_, hW.below⟩)
  have hyes : Fine n l := hF
  rw [decide_eq_true hyes]

theorem rcheck_calls (n : Int) (A : Option Addr) (cap : Nat) (l : List Lk) (w : World) (hl : l.length <= 1000) (hA : At w A 4 (l.map lkE)) :
  Calls Tryz.prog 76 ⟨[.agg ⟨netCells n A l.length cap⟩]⟩ w fun e w' => e = .returned (.int .i64 (chk n l)) /\ Below w.heap.size w w' := by
 refine fun_enter Tryz.func76 rfl Tryz.ntmps76 rfl rfl (satW_nil w) ?_
 repeat' (first|refine l_val rfl rfl (by first|exact pureEval_ok rfl|exact v_load rfl (by repeat constructor) rfl (by rfl)|fail) ?_|refine l_nil ?_|refine c_region ?_|refine c_seq ?_|refine x_then ?_|refine l_skip rfl rfl ?_|refine r_box rfl rfl rfl rfl (fun _ => ?_)|refine c_true rfl ?_|refine c_skip ?_|refine c_ret ?_|refine x_then_ret ?_|refine l_dec rfl rfl rfl rfl rfl (fun _ => ?_) (fun _ => ?_)|refine c_dec rfl (fun _ => ?_) (fun _ => ?_)|fail)
 ·refine x_ret rfl rfl (by repeat (first|exact .nil|(apply Res.tmp; rfl)|(apply Res.cell; rfl; exact (by repeat constructor); rfl; rfl))) rfl (fun W hW => ⟨?_, hW.below⟩)
  rw [chk_1 (.inl (by assumption))]
 ·refine x_ret rfl rfl (by repeat (first|exact .nil|(apply Res.tmp; rfl)|(apply Res.cell; rfl; exact (by repeat constructor); rfl; rfl))) rfl (fun W hW => ⟨?_, hW.below⟩)
  rw [chk_1 (.inr (by assumption))]
 ·refine x_ret rfl rfl (by repeat (first|exact .nil|(apply Res.tmp; rfl)|(apply Res.cell; rfl; exact (by repeat constructor); rfl; rfl))) rfl (fun W hW => ⟨?_, hW.below⟩)
  rw [chk_2 (by omega) (by omega)]
 ·refine r_call rfl rfl rfl (fun W hW => right_calls n A cap l W hl (hA.sat hW)) ?_
  by_cases hf : Fine n l
  ·rw [decide_eq_true hf]
   repeat (first|refine l_val rfl rfl (by first|exact pureEval_ok rfl|fail) ?_|refine l_nil ?_|refine c_region ?_|refine c_seq ?_|refine x_then ?_|refine c_false rfl ?_|refine c_skip ?_|refine c_ret ?_|fail)
   refine x_ret rfl rfl (by repeat (first|exact .nil|(apply Res.tmp; rfl)|(apply Res.cell; rfl; exact (by repeat constructor); rfl; rfl))) rfl (fun W hW => ⟨?_, hW.below⟩)
   rw [chk_0 (by omega) (by omega) hf]
  ·rw [decide_eq_false hf]
   repeat (first|refine l_val rfl rfl (by first|exact pureEval_ok rfl|fail) ?_|refine l_nil ?_|refine c_region ?_|refine c_seq ?_|refine x_then ?_|refine c_true rfl ?_|refine c_ret ?_|refine x_then_ret ?_|fail)
   refine x_ret rfl rfl (by repeat (first|exact .nil|(apply Res.tmp; rfl)|(apply Res.cell; rfl; exact (by repeat constructor); rfl; rfl))) rfl (fun W hW => ⟨?_, hW.below⟩)
   rw [chk_220 (by omega) (by omega) hf]

theorem check_calls (n : Int) (A : Option Addr) (cap : Nat) (l : List Lk) (w : World) (hl : l.length <= 1000) (hA : At w A 4 (l.map lkE)) :
  Calls Tryz.prog 82 ⟨[.agg ⟨netCells n A l.length cap⟩]⟩ w fun e w' => e = .returned (.int .i64 (chk n l)) /\ Below w.heap.size w w' := by
 refine fun_enter Tryz.func82 rfl Tryz.ntmps82 rfl rfl (satW_nil w) ?_
 repeat' (first|refine l_val rfl rfl (by first|exact pureEval_ok rfl|exact v_load rfl (by repeat constructor) rfl (by rfl)|fail) ?_|refine l_nil ?_|refine c_region ?_|refine c_seq ?_|refine x_then ?_|refine l_skip rfl rfl ?_|refine r_box rfl rfl rfl rfl (fun _ => ?_)|refine c_true rfl ?_|refine c_block ?_|refine c_skip ?_|refine c_ret ?_|refine x_then_ret ?_|refine x_block ?_|refine x_block_ret ?_|refine l_dec rfl rfl rfl rfl rfl (fun _ => ?_) (fun _ => ?_)|refine c_dec rfl (fun _ => ?_) (fun _ => ?_)|fail)
 ·refine x_ret rfl rfl (by repeat (first|exact .nil|(apply Res.tmp; rfl)|(apply Res.cell; rfl; exact (by repeat constructor); rfl; rfl))) rfl (fun W hW => ⟨?_, hW.below⟩)
  rw [chk_1 (.inl (by assumption))]
 ·refine x_ret rfl rfl (by repeat (first|exact .nil|(apply Res.tmp; rfl)|(apply Res.cell; rfl; exact (by repeat constructor); rfl; rfl))) rfl (fun W hW => ⟨?_, hW.below⟩)
  rw [chk_1 (.inr (by assumption))]
 ·refine x_ret rfl rfl (by repeat (first|exact .nil|(apply Res.tmp; rfl)|(apply Res.cell; rfl; exact (by repeat constructor); rfl; rfl))) rfl (fun W hW => ⟨?_, hW.below⟩)
  rw [chk_2 (by omega) (by omega)]
 ·rename_i b h1 h2 h3
  refine c_loop (ι := Nat) (fun k => k <= l.length /\ ∀ x ∈ l.take k, x.Fine n) (fun k => [(1, .pointer (some ⟨b, 0, none⟩)), (20, .slice A l.length cap), (21, .int .i64 l.length), (22, .int .i64 k)])
   (fun _ => [(b, .cells ⟨netCells n A l.length cap⟩ 90 (0, 0))]) (fun k => l.length - k) 0 ⟨by omega, by simp⟩ (by repeat (first|exact .nil|refine .cons rfl (by first|rfl|(congr 1; done)|exact congrArg _ (by omega)|(simp; done)) ?_)) (by repeat (first|exact .nil|refine .keep (by first|rfl|assumption) ?_|refine .drop ?_|exact MSub.refl _)) ?_
  rintro k ⟨hk, hF⟩
  by_cases hlt : k < l.length
  ·obtain ⟨x, hx⟩ : ∃ x, l[k]? = some x := ⟨_, List.getElem?_eq_getElem hlt⟩
   obtain ⟨b, o, rfl, hc⟩ := hA k (lkE x) (by simp [hx])
   have he := ext_of hc
   have hin : x ∈ l := List.mem_of_getElem? hx
   repeat' (first|refine l_val rfl rfl (by first|exact v_add rfl rfl (by omega) (by omega)|exact pureEval_ok rfl|exact v_load rfl (by repeat constructor) rfl (by rfl)|exact v_load_ext0 rfl (by assumption) rfl (by rfl)|exact v_index rfl rfl rfl rfl (by omega) (by omega) (by with_reducible first|exact idx4 _ _ _|fail)|fail) ?_|refine l_nil ?_|refine c_region ?_|refine c_seq ?_|refine x_then ?_|refine l_skip rfl rfl ?_|refine r_alloc rfl rfl rfl (by first|exact aggL|fail) (fun _ => ?_)|refine r_store rfl rfl rfl rfl rfl rfl rfl (by repeat constructor) (by rfl) ?_|refine c_true rfl ?_|refine c_dec_t rfl (by first|omega|fail) ?_|refine c_block ?_|refine c_skip ?_|refine c_ret ?_|refine x_then_ret ?_|refine x_block ?_|refine x_block_ret ?_|refine l_dec rfl rfl rfl rfl rfl (fun _ => ?_) (fun _ => ?_)|refine c_dec rfl (fun _ => ?_) (fun _ => ?_)|fail)
   all_goals first
    | (refine x_ret rfl rfl (by repeat (first|exact .nil|(apply Res.tmp; rfl)|(apply Res.cell; rfl; exact (by repeat constructor); rfl; rfl))) rfl (fun W hW => ⟨?_, hW.below⟩)
       have hno : ¬ Fine n l := fun h => by have := h x hin; unfold Lk.Fine at this; omega
       rw [chk_220 (by omega) (by omega) hno])
    | (refine x_back (k + 1) ⟨hlt, ?_⟩ (by omega) (by repeat (first|exact .nil|refine .cons rfl (by first|rfl|(congr 1; done)|exact congrArg _ (by omega)|(simp; done)) ?_)) (by repeat (first|exact .nil|refine .keep (by first|rfl|assumption) ?_|refine .drop ?_|exact MSub.refl _))
       intro y hy
       rw [List.take_add_one, hx] at hy
       rcases List.mem_append.1 hy with h | h
       ·exact hF y h
       ·simp only [Option.toList_some, List.mem_singleton] at h
        rw [h]; unfold Lk.Fine; omega)
  ·have hkl : k = l.length := by omega
   subst hkl
   rw [List.take_length] at hF
   repeat' (first|refine l_val rfl rfl (by first|exact pureEval_ok rfl|fail) ?_|refine l_nil ?_|refine c_region ?_|refine c_seq ?_|refine x_then ?_|refine c_dec_f rfl (by first|omega|fail) ?_|refine c_ret ?_|refine c_exit ?_|refine x_then_exit ?_|refine x_block_same ?_|fail)
   refine x_ret rfl rfl (by repeat (first|exact .nil|(apply Res.tmp; rfl)|(apply Res.cell; rfl; exact (by repeat constructor); rfl; rfl))) rfl (fun W hW => ⟨?_, hW.below⟩)
   have hyes : Fine n l := hF
   rw [chk_0 (by omega) (by omega) hyes]
end R22
end Go.Proofs

namespace Go.Proofs
open Go.RowKit Go.Kin Go.Kin.St
namespace R22
def tf (t : List Int) : Nat -> Int := fun i => t.getD i 0
def lkB (t : List Int) (x : Lk) : Bool := decide (x.lo <= tf t x.to.toNat - tf t x.fr.toNat /\ tf t x.to.toNat - tf t x.fr.toNat <= x.hi)
def metB (l : List Lk) (t : List Int) : Bool := l.all (lkB t)
def inE (v : Int) : List Value := [.int .i64 v]
/-- times as they come in -/
def Tm (t : List Int) : Prop := ∀ v ∈ t, 0 <= v /\ v <= 1152921504606846976

theorem at_int {w : World} {T : Option Addr} {t : List Int} {i : Int} (h : At w T 1 (t.map inE)) (h0 : 0 <= i) (hi : i < t.length) :
  ∃ b o, T = some ⟨b, o, none⟩ /\ Ext w (base w) b (o + i.toNat) [.int .i64 (tf t i.toNat)] := by
 have hg : t[i.toNat]? = some (tf t i.toNat) := by unfold tf; rw [List.getD_eq_getElem?_getD, List.getElem?_eq_getElem (by omega)]; rfl
 obtain ⟨b, o, hT, hc⟩ := h i.toNat (inE (tf t i.toNat)) (by simp [hg])
 exact ⟨b, o, hT, ext_of (by rw [Nat.mul_one] at hc; exact hc)⟩
theorem tf_in {t : List Int} (h : Tm t) (i : Nat) : 0 <= tf t i /\ tf t i <= 1152921504606846976 := by
 unfold tf
 rw [List.getD_eq_getElem?_getD]
 cases hg : t[i]? with
 | none => simp
 | some v => exact h v (List.mem_of_getElem? hg)


def tmB (t : List Int) : Bool := t.all fun v => decide (0 <= v /\ v <= 1152921504606846976)
theorem tmB_iff (t : List Int) : tmB t = true ↔ Tm t := by simp [tmB, Tm]
/-- as the law asks -/
def schB (n : Int) (l : List Lk) (t : List Int) : Bool := decide ((t.length : Int) = n) && (tmB t && metB l t)


end R22
end Go.Proofs
