/- Collating: Pair, in the program. The walk of its loop is printed by gen_pair.py. -/
import Derived.Test.YtajnkdgbpffinaaGreatClE0
set_option maxRecDepth 100000
set_option maxHeartbeats 400000000
set_option linter.unusedSectionVars false
set_option linter.unusedVariables false
set_option linter.unusedSimpArgs false
namespace Go.Proofs
open Go.RowKit Go.Kin Go.Kin.Cl
namespace R41
theorem Pair_calls (a b : List Int) (A B : Option Addr) (ca cb : Nat) (w : World) (hla : a.length <= 100000) (hlb : b.length <= 100000) (hba : ∀ x ∈ a, -9223372036854775808 <= x /\ x <= 9223372036854775807) (hbb : ∀ x ∈ b, -9223372036854775808 <= x /\ x <= 9223372036854775807)
  (hA : Kin.At w A 1 (a.map inE)) (hB : Kin.At w B 1 (b.map inE)) : Calls Tryz.prog 10 ⟨[.slice A a.length ca, .slice B b.length cb]⟩ w (PairQ a b w) := by
 refine fEn Tryz.func10 rfl Tryz.ntmps10 rfl rfl (sWn w) ?_
 repeat (first|refine lVa rfl rfl (by first|exact pEv rfl|exact vLd rfl (by repeat constructor) rfl (by rfl)|fail) ?_|refine lNi ?_|refine cRg ?_|refine cSq ?_|refine xTh ?_|refine r_box rfl rfl rfl rfl (fun _ => ?_)|fail)
 rename_i x2 x3
 by_cases h1 : 64 < a.length
 ·have hv : prR a b = 2 := if_pos (.inl h1)
  repeat (first|refine lVa rfl rfl (by first|exact pEv rfl|exact vLd rfl (by repeat constructor) rfl (by rfl)|fail) ?_|refine lNi ?_|refine cRg ?_|refine cSq ?_|refine xTh ?_|refine l_skip rfl rfl ?_|refine c_true rfl ?_|refine c_ret ?_|refine xTr ?_|refine l_dec_t rfl rfl rfl rfl rfl (by first|omega|fail) ?_|fail)
  exact x_ret rfl rfl (by repeat constructor) rfl (fun W hW => ⟨hW.below, .inl ⟨by rw [hv]; decide, by rw [hv]⟩⟩)
 by_cases h2 : 64 < b.length
 ·have hv : prR a b = 2 := if_pos (.inr h2)
  repeat (first|refine lVa rfl rfl (by first|exact pEv rfl|exact vLd rfl (by repeat constructor) rfl (by rfl)|fail) ?_|refine lNi ?_|refine cRg ?_|refine cSq ?_|refine xTh ?_|refine c_dec_t rfl (by first|omega|fail) ?_|refine c_ret ?_|refine xTr ?_|refine l_dec_f rfl rfl rfl rfl rfl (by first|omega|fail) ?_|fail)
  exact x_ret rfl rfl (by repeat constructor) rfl (fun W hW => ⟨hW.below, .inl ⟨by rw [hv]; decide, by rw [hv]⟩⟩)
 have hbad : ¬ (a.all isC = true /\ b.all isC = true) -> prR a b = 410 := fun h => by unfold prR; rw [if_neg (by omega), if_neg h]
 have hgood : a.all isC = true /\ b.all isC = true -> prR a b = 0 := fun h => by unfold prR; rw [if_neg (by omega), if_pos h]
 have hbad' := fun (_ : Unit) => hbad
 have hgood' := fun (_ : Unit) => hgood
 clear hbad hgood
 repeat (first|refine lVa rfl rfl (by first|exact pEv rfl|exact vLd rfl (by repeat constructor) rfl (by rfl)|fail) ?_|refine lNi ?_|refine cRg ?_|refine cSq ?_|refine xTh ?_|refine r_buildSlice rfl rfl rfl rfl rfl rfl (by rfl) (fun _ => ?_)|refine c_dec_f rfl (by first|omega|fail) ?_|refine cBl ?_|refine cSk ?_|refine l_dec_f rfl rfl rfl rfl rfl (by first|omega|fail) ?_|fail)
 rename_i bs
 refine c_loop (ι := Nat) (fun n => n <= 2 /\ (Unit -> 1 <= n -> a.all isC = true) /\ (Unit -> 2 <= n -> b.all isC = true)) (fun n => [(2, .pointer (some ⟨x2, 0, none⟩)), (3, .pointer (some ⟨x3, 0, none⟩)), (4, .int .i64 0), (5, .slice none 0 0), (6, .int .i64 0), (28, .slice (some ⟨bs, 0, none⟩) 2 2), (29, .int .i64 2), (30, .int .i64 n)])
  (fun _ => [(bs, .cells ⟨[.slice A a.length ca, .slice B b.length cb]⟩ 28 (0, 0)), (x3, .cells ⟨[.slice B b.length cb]⟩ 28 (0, 0)), (x2, .cells ⟨[.slice A a.length ca]⟩ 28 (0, 0))]) (fun n => 2 - n) 0 ⟨by omega, fun _ h => by omega, fun _ h => by omega⟩ (by repeat (first|exact .nil|refine .cons rfl (by first|rfl|(congr 1; done)|exact congrArg _ (by omega)|(simp; done)) ?_)) (by repeat (first|exact .nil|refine .keep (by first|rfl|assumption) ?_|refine .drop ?_|exact MSub.refl _)) ?_
 rintro n ⟨n0, n1, n2⟩
 by_cases hn2 : n < 2
 ·obtain rfl | rfl : n = 0 ∨ n = 1 := by omega
  ·repeat (first|refine lVa rfl rfl (by first|exact pEv rfl|exact vLd rfl (by repeat constructor) rfl (by rfl)|exact v_index rfl rfl rfl rfl (by omega) (by omega) (by with_reducible first|exact idx1 _|fail)|fail) ?_|refine lNi ?_|refine cRg ?_|refine cSq ?_|refine xTh ?_|refine c_true rfl ?_|refine cBl ?_|refine cSk ?_|fail)
   refine c_loop (ι := Nat) (fun m => m <= a.length /\ (Unit -> (a.take m).all isC = true)) (fun m => [(2, .pointer (some ⟨x2, 0, none⟩)), (3, .pointer (some ⟨x3, 0, none⟩)), (4, .int .i64 0), (5, .slice none 0 0), (6, .int .i64 0), (28, .slice (some ⟨bs, 0, none⟩) 2 2), (29, .int .i64 2), (30, .int .i64 0), (34, .slice A a.length ca), (35, .int .i64 a.length), (36, .int .i64 m)])
    (fun _ => [(bs, .cells ⟨[.slice A a.length ca, .slice B b.length cb]⟩ 28 (0, 0)), (x3, .cells ⟨[.slice B b.length cb]⟩ 28 (0, 0)), (x2, .cells ⟨[.slice A a.length ca]⟩ 28 (0, 0))]) (fun m => a.length - m) 0 ⟨by omega, fun _ => rfl⟩ (by repeat (first|exact .nil|refine .cons rfl (by first|rfl|(congr 1; done)|exact congrArg _ (by omega)|(simp; done)) ?_)) (by repeat (first|exact .nil|refine .keep (by first|rfl|assumption) ?_|refine .drop ?_|exact MSub.refl _)) ?_
   rintro m ⟨m1, m2⟩
   by_cases hlt : m < a.length
   ·obtain ⟨x, hx⟩ : ∃ x, a[m]? = some x := ⟨_, List.getElem?_eq_getElem hlt⟩
    obtain ⟨b1, o1, e0, e1⟩ := ext_at hA hx
    have g1 := ext_of e1
    rw [Nat.mul_one] at g1
    subst e0
    have hxb := hba x (List.mem_of_getElem? hx)
    have ht : a.take (m + 1) = a.take m ++ [x] := by rw [List.take_add_one, hx]; rfl
    repeat (first|refine lVa rfl rfl (by first|exact pEv rfl|exact vL0 rfl (by assumption) rfl (by rfl)|exact v_index rfl rfl rfl rfl (by omega) (by omega) (by with_reducible first|exact idx2 _ _|fail)|fail) ?_|refine lNi ?_|refine cRg ?_|refine cSq ?_|refine xTh ?_|refine c_dec_t rfl (by first|omega|fail) ?_|refine cBl ?_|refine cSk ?_|fail)
    refine r_call rfl rfl rfl (fun W hW => Sign_calls x W hxb) ?_
    by_cases ho : okS (unp x) = true
    ·rw [sgnA_t ho]
     have hn : Unit -> (a.take (m + 1)).all isC = true := fun _ => by rw [ht, List.all_append, m2 ()]; simp [isC_t ho]
     repeat (first|refine lVa rfl rfl (by first|exact v_add rfl rfl (by omega) (by omega)|exact pEv rfl|fail) ?_|refine lNi ?_|refine cRg ?_|refine cSq ?_|refine xTh ?_|refine l_skip rfl rfl ?_|refine r_alloc rfl rfl rfl (by first|exact aggL|fail) (fun _ => ?_)|refine rSt rfl rfl rfl rfl rfl rfl rfl (by repeat constructor) (by rfl) ?_|refine c_false rfl ?_|refine cSk ?_|refine x_block ?_|fail)
     exact x_back (m + 1) ⟨hlt, hn⟩ (by omega) (by repeat (first|exact .nil|refine .cons rfl (by first|rfl|(congr 1; done)|exact congrArg _ (by omega)|(simp; done)) ?_)) (by repeat (first|exact .nil|refine .keep (by first|rfl|assumption) ?_|refine .drop ?_|exact MSub.refl _))
    ·rw [sgnA_f ho]
     by_cases hz : x = 8589934592
     ·have hn : Unit -> (a.take (m + 1)).all isC = true := fun _ => by rw [ht, List.all_append, m2 ()]; simp [show isC x = true from (isC_f ho).trans (decide_eq_true hz)]
      repeat (first|refine lVa rfl rfl (by first|exact v_add rfl rfl (by omega) (by omega)|exact pEv rfl|fail) ?_|refine lNi ?_|refine cRg ?_|refine cSq ?_|refine xTh ?_|refine r_alloc rfl rfl rfl (by first|exact aggL|fail) (fun _ => ?_)|refine rSt rfl rfl rfl rfl rfl rfl rfl (by repeat constructor) (by rfl) ?_|refine c_dec_f rfl (by first|omega|fail) ?_|refine cSk ?_|refine x_block ?_|fail)
      exact x_back (m + 1) ⟨hlt, hn⟩ (by omega) (by repeat (first|exact .nil|refine .cons rfl (by first|rfl|(congr 1; done)|exact congrArg _ (by omega)|(simp; done)) ?_)) (by repeat (first|exact .nil|refine .keep (by first|rfl|assumption) ?_|refine .drop ?_|exact MSub.refl _))
     ·have hE := hbad' () fun h => by
       have := List.all_eq_true.1 h.1 x (List.mem_of_getElem? hx)
       rw [isC_f ho, decide_eq_false hz] at this
       cases this
      repeat (first|refine lVa rfl rfl (by first|exact pEv rfl|fail) ?_|refine lNi ?_|refine cRg ?_|refine cSq ?_|refine xTh ?_|refine r_alloc rfl rfl rfl (by first|exact aggL|fail) (fun _ => ?_)|refine rSt rfl rfl rfl rfl rfl rfl rfl (by repeat constructor) (by rfl) ?_|refine c_dec_t rfl (by first|omega|fail) ?_|refine c_ret ?_|refine xTr ?_|refine xBr ?_|fail)
      exact x_ret rfl rfl (by repeat constructor) rfl (fun W hW => ⟨hW.below, .inl ⟨by rw [hE]; decide, by rw [hE]⟩⟩)
   have hm : m = a.length := by omega
   have hall : Unit -> a.all isC = true := fun _ => by have := m2 (); rw [hm, List.take_length] at this; exact this
   repeat (first|refine lVa rfl rfl (by first|exact v_add rfl rfl (by omega) (by omega)|exact pEv rfl|fail) ?_|refine lNi ?_|refine cRg ?_|refine cSq ?_|refine xTh ?_|refine c_dec_f rfl (by first|omega|fail) ?_|refine c_exit ?_|refine xTe ?_|refine x_block ?_|refine xBs ?_|fail)
   exact x_back 1 ⟨by omega, fun _ _ => hall (), fun _ h => by omega⟩ (by omega) (by repeat (first|exact .nil|refine .cons rfl (by first|rfl|(congr 1; done)|exact congrArg _ (by omega)|(simp; done)) ?_)) (by repeat (first|exact .nil|refine .keep (by first|rfl|assumption) ?_|refine .drop ?_|exact MSub.refl _))
  ·repeat (first|refine lVa rfl rfl (by first|exact pEv rfl|exact vLd rfl (by repeat constructor) rfl (by rfl)|exact v_index rfl rfl rfl rfl (by omega) (by omega) (by with_reducible first|exact idx1 _|fail)|fail) ?_|refine lNi ?_|refine cRg ?_|refine cSq ?_|refine xTh ?_|refine c_true rfl ?_|refine cBl ?_|refine cSk ?_|fail)
   refine c_loop (ι := Nat) (fun m => m <= b.length /\ (Unit -> (b.take m).all isC = true)) (fun m => [(2, .pointer (some ⟨x2, 0, none⟩)), (3, .pointer (some ⟨x3, 0, none⟩)), (4, .int .i64 0), (5, .slice none 0 0), (6, .int .i64 0), (28, .slice (some ⟨bs, 0, none⟩) 2 2), (29, .int .i64 2), (30, .int .i64 1), (34, .slice B b.length cb), (35, .int .i64 b.length), (36, .int .i64 m)])
    (fun _ => [(bs, .cells ⟨[.slice A a.length ca, .slice B b.length cb]⟩ 28 (0, 0)), (x3, .cells ⟨[.slice B b.length cb]⟩ 28 (0, 0)), (x2, .cells ⟨[.slice A a.length ca]⟩ 28 (0, 0))]) (fun m => b.length - m) 0 ⟨by omega, fun _ => rfl⟩ (by repeat (first|exact .nil|refine .cons rfl (by first|rfl|(congr 1; done)|exact congrArg _ (by omega)|(simp; done)) ?_)) (by repeat (first|exact .nil|refine .keep (by first|rfl|assumption) ?_|refine .drop ?_|exact MSub.refl _)) ?_
   rintro m ⟨m1, m2⟩
   by_cases hlt : m < b.length
   ·obtain ⟨x, hx⟩ : ∃ x, b[m]? = some x := ⟨_, List.getElem?_eq_getElem hlt⟩
    obtain ⟨b1, o1, e0, e1⟩ := ext_at hB hx
    have g1 := ext_of e1
    rw [Nat.mul_one] at g1
    subst e0
    have hxb := hbb x (List.mem_of_getElem? hx)
    have ht : b.take (m + 1) = b.take m ++ [x] := by rw [List.take_add_one, hx]; rfl
    repeat (first|refine lVa rfl rfl (by first|exact pEv rfl|exact vL0 rfl (by assumption) rfl (by rfl)|exact v_index rfl rfl rfl rfl (by omega) (by omega) (by with_reducible first|exact idx2 _ _|fail)|fail) ?_|refine lNi ?_|refine cRg ?_|refine cSq ?_|refine xTh ?_|refine c_dec_t rfl (by first|omega|fail) ?_|refine cBl ?_|refine cSk ?_|fail)
    refine r_call rfl rfl rfl (fun W hW => Sign_calls x W hxb) ?_
    by_cases ho : okS (unp x) = true
    ·rw [sgnA_t ho]
     have hn : Unit -> (b.take (m + 1)).all isC = true := fun _ => by rw [ht, List.all_append, m2 ()]; simp [isC_t ho]
     repeat (first|refine lVa rfl rfl (by first|exact v_add rfl rfl (by omega) (by omega)|exact pEv rfl|fail) ?_|refine lNi ?_|refine cRg ?_|refine cSq ?_|refine xTh ?_|refine l_skip rfl rfl ?_|refine r_alloc rfl rfl rfl (by first|exact aggL|fail) (fun _ => ?_)|refine rSt rfl rfl rfl rfl rfl rfl rfl (by repeat constructor) (by rfl) ?_|refine c_false rfl ?_|refine cSk ?_|refine x_block ?_|fail)
     exact x_back (m + 1) ⟨hlt, hn⟩ (by omega) (by repeat (first|exact .nil|refine .cons rfl (by first|rfl|(congr 1; done)|exact congrArg _ (by omega)|(simp; done)) ?_)) (by repeat (first|exact .nil|refine .keep (by first|rfl|assumption) ?_|refine .drop ?_|exact MSub.refl _))
    ·rw [sgnA_f ho]
     by_cases hz : x = 8589934592
     ·have hn : Unit -> (b.take (m + 1)).all isC = true := fun _ => by rw [ht, List.all_append, m2 ()]; simp [show isC x = true from (isC_f ho).trans (decide_eq_true hz)]
      repeat (first|refine lVa rfl rfl (by first|exact v_add rfl rfl (by omega) (by omega)|exact pEv rfl|fail) ?_|refine lNi ?_|refine cRg ?_|refine cSq ?_|refine xTh ?_|refine r_alloc rfl rfl rfl (by first|exact aggL|fail) (fun _ => ?_)|refine rSt rfl rfl rfl rfl rfl rfl rfl (by repeat constructor) (by rfl) ?_|refine c_dec_f rfl (by first|omega|fail) ?_|refine cSk ?_|refine x_block ?_|fail)
      exact x_back (m + 1) ⟨hlt, hn⟩ (by omega) (by repeat (first|exact .nil|refine .cons rfl (by first|rfl|(congr 1; done)|exact congrArg _ (by omega)|(simp; done)) ?_)) (by repeat (first|exact .nil|refine .keep (by first|rfl|assumption) ?_|refine .drop ?_|exact MSub.refl _))
     ·have hE := hbad' () fun h => by
       have := List.all_eq_true.1 h.2 x (List.mem_of_getElem? hx)
       rw [isC_f ho, decide_eq_false hz] at this
       cases this
      repeat (first|refine lVa rfl rfl (by first|exact pEv rfl|fail) ?_|refine lNi ?_|refine cRg ?_|refine cSq ?_|refine xTh ?_|refine r_alloc rfl rfl rfl (by first|exact aggL|fail) (fun _ => ?_)|refine rSt rfl rfl rfl rfl rfl rfl rfl (by repeat constructor) (by rfl) ?_|refine c_dec_t rfl (by first|omega|fail) ?_|refine c_ret ?_|refine xTr ?_|refine xBr ?_|fail)
      exact x_ret rfl rfl (by repeat constructor) rfl (fun W hW => ⟨hW.below, .inl ⟨by rw [hE]; decide, by rw [hE]⟩⟩)
   have hm : m = b.length := by omega
   have hall : Unit -> b.all isC = true := fun _ => by have := m2 (); rw [hm, List.take_length] at this; exact this
   repeat (first|refine lVa rfl rfl (by first|exact v_add rfl rfl (by omega) (by omega)|exact pEv rfl|fail) ?_|refine lNi ?_|refine cRg ?_|refine cSq ?_|refine xTh ?_|refine c_dec_f rfl (by first|omega|fail) ?_|refine c_exit ?_|refine xTe ?_|refine x_block ?_|refine xBs ?_|fail)
   exact x_back 2 ⟨by omega, fun _ _ => n1 () (by omega), fun _ _ => hall ()⟩ (by omega) (by repeat (first|exact .nil|refine .cons rfl (by first|rfl|(congr 1; done)|exact congrArg _ (by omega)|(simp; done)) ?_)) (by repeat (first|exact .nil|refine .keep (by first|rfl|assumption) ?_|refine .drop ?_|exact MSub.refl _))
 have hn : n = 2 := by omega
 subst hn
 have hE := hgood' () ⟨n1 () (by omega), n2 () (by omega)⟩
 clear n1 n2 hbad' hgood'
 repeat ((fail_if_success refine c_probe (id := 17) ?_); (fail_if_success refine c_probe1 (id := 17) ?_); first|refine lVa rfl rfl (by first|exact pEv rfl|fail) ?_|refine lNi ?_|refine cRg ?_|refine cSq ?_|refine xTh ?_|refine r_makeMap rfl rfl (fun _ => ?_)|refine r_alloc rfl rfl rfl (by first|exact aggL|fail) (fun _ => ?_)|refine rSt rfl rfl rfl rfl rfl rfl rfl (by repeat constructor) (by rfl) ?_|refine c_false rfl ?_|refine c_exit ?_|refine xTe ?_|refine xBs ?_|fail)
 rename_i bm x13 x14
 refine c_freeze (mem' := [(bm, .map ⟨[]⟩ 0)]) (by repeat (first|exact .nil|refine .keep (by first|rfl|assumption) ?_|refine .drop ?_|exact MSub.refl _)) (fun W1 hW1 => ?_)
 have o2 := (hW1.own (x2, _) (by repeat constructor)).2
 have o3 := (hW1.own (x3, _) (by repeat constructor)).2
 have o13 := (hW1.own (x13, _) (by repeat constructor)).2
 have o14 := (hW1.own (x14, _) (by repeat constructor)).2
 have om := hW1.own (bm, _) (by repeat constructor)
 have hmm : W1.heap[bm]? = some (.map ⟨[]⟩ 0) := om.2
 have hne : ∀ {x : Nat} {cs : Array Value} {T : TypeId}, W1.heap[x]? = some (.cells cs T (0, 0)) -> x ≠ bm := fun h e => by subst e; rw [hmm] at h; cases h
 have ext1 : ∀ {x : Nat} {cs : List Value} {T : TypeId}, W1.heap[x]? = some (.cells ⟨cs⟩ T (0, 0)) -> Ext W1 (Db W1 bm) x 0 cs := fun h => ⟨⟨lt_of_heap h, hne h⟩, fun i v hi => by unfold World.cell?; rw [h, Nat.zero_add]; simpa using hi⟩
 have hAt : ∀ {L : Option Addr} {l : List Int}, Kin.At w L 1 (l.map inE) -> ∀ (i : Nat) (x : Int), l[i]? = some x -> ∃ b o, L = some ⟨b, o, none⟩ /\ Ext W1 (Db W1 bm) b (o + i) [.int .i64 x] := fun hL i x hx => by
  obtain ⟨b0, o0, e0, hc⟩ := ext_at (hL.sat hW1) hx
  refine ⟨b0, o0, e0, ⟨lt_of_cell (hc 0 _ rfl), fun e => ?_⟩, fun j v hj => ?_⟩
  ·have := hc 0 _ rfl
   subst e
   unfold World.cell? at this
   rw [hmm] at this
   cases this
  ·have := hc j v hj
   rwa [Nat.mul_one] at this
 have hLW : LW a b A B ca cb x2 x3 x13 x14 bm W1 := ⟨ext1 o2, ext1 o3, ext1 o13, ext1 o14, hAt hA, hAt hB, [], 0, hmm, fun e he => by cases he⟩
 have hDb : ¬ Db W1 bm bm := fun h => h.2 rfl
 have hbm : w.heap.size <= bm := Nat.le_of_not_lt om.1
 have hbel : ∀ {J : (Nat -> Prop) -> World -> Prop} {mem : List (Nat × Obj)} {W : World}, SatW W1 (Db W1 bm) J mem W -> Under w.heap.size w W := fun hm =>
  (hW1.same.trans (hm.same.mono fun k hk => ⟨Nat.lt_of_lt_of_le hk hW1.same.size, fun e => om.1 (e ▸ hk)⟩)).below (Nat.le_refl _) fun _ hk => hk
 have hW1s : w.heap.size <= W1.heap.size := hW1.same.size
 have hown : ∀ {J : (Nat -> Prop) -> World -> Prop} {mem : List (Nat × Obj)} {W : World} {q : Nat × Obj}, SatW W1 (Db W1 bm) J mem W -> q ∈ mem -> w.heap.size <= q.1 := fun hm hq => by
  have := (hm.own _ hq).1
  unfold Db at this
  omega
 have hL : ∀ (i k : Nat) (I K : Int), I = i -> K = k -> i <= a.length -> k <= b.length -> ∀ (mem : List (Nat × Obj)) (W : World), SatW W1 (Db W1 bm) (MapJ bm (lft a b)) mem W ->
   Calls Tryz.prog 30 ⟨[.int .i64 I, .int .i64 K, .pointer (some ⟨x2, 0, none⟩), .pointer (some ⟨x3, 0, none⟩), .pointer (some ⟨x13, 0, none⟩), .pointer (some ⟨x14, 0, none⟩)]⟩ W (fun e W' => e = .returned (.int .i64 (lf a b i k)) /\ SatW W1 (Db W1 bm) (MapJ bm (lft a b)) mem W') := by
  intro i k I K g1 g2 g3 g4 mem W hW
  refine (least_calls a b A B ca cb x2 x3 x13 x14 bm (by omega) (by omega) _ i k I K g1 g2 g3 g4 (Nat.le_refl _) W (hLW.sat hW)).mono ?_
  rintro e W' ⟨f1, f2, ents, clock, f3, f4⟩
  exact ⟨by rw [f1, lft_nat a b g1 g2], satW_mapJ hW hDb f2 f3 f4⟩
 have e2 := hLW.e2
 have e3 := hLW.e3
 have e14 := hLW.e5
 have eA := hLW.eA
 have eB := hLW.eB
 have hlen := pairL_len _ 0 0 a b (Nat.le_refl _)
 have hac : ac a b = lf a b 0 0 := rfl
 rw [show allBut W1 (List.map (·.1) [(bm, Obj.map ⟨[]⟩ 0)]) = Db W1 bm from by funext k; simp [allBut, Db]]
 refine c_mapJ (lft a b) (mem' := []) (List.Perm.refl _) ?_
 clear hLW ext1 hAt hne o2 o3 o13 o14 hA hB
 repeat (first|refine lVa rfl rfl (by first|exact pEv rfl|fail) ?_|refine lNi ?_|refine cRg ?_|refine cSq ?_|refine xTh ?_|refine cBl ?_|fail)
 refine c_loop (ι := LS) (fun s => LS.ok a b s /\ (Unit -> s.l ++ prf a b s.i s.k = pairL a b)) (fun s => [(2, .pointer (some ⟨x2, 0, none⟩)), (3, .pointer (some ⟨x3, 0, none⟩)), (5, s.sv), (14, .pointer (some ⟨x14, 0, none⟩)), (15, .int .i64 s.i), (16, .int .i64 s.k)]) (fun s => s.mem) (fun s => (a.length - s.i) + (b.length - s.k)) .zero ⟨trivial, fun _ => rfl⟩ (by repeat (first|exact .nil|refine .cons rfl (by first|rfl|(congr 1; done)|exact congrArg _ (by omega)|(simp; done)) ?_)) (by repeat (first|exact .nil|refine .keep (by first|rfl|assumption) ?_|refine .drop ?_|exact MSub.refl _)) ?_
 rintro s ⟨hs, hp⟩
 cases s with
 | zero =>
  have hp : Unit -> prf a b 0 0 = pairL a b := hp
  show RunC _ _ _ _ _ [(2, .pointer (some ⟨x2, 0, none⟩)), (3, .pointer (some ⟨x3, 0, none⟩)), (5, .slice none 0 0), (14, .pointer (some ⟨x14, 0, none⟩)), (15, .int .i64 ((0 : Nat) : Int)), (16, .int .i64 ((0 : Nat) : Int))] []
  by_cases hi : 0 < a.length
  ·obtain ⟨x, hx⟩ : ∃ x, a[0]? = some x := ⟨_, List.getElem?_eq_getElem hi⟩
   obtain ⟨bA, oA, hAe, gA⟩ := eA 0 x hx
   by_cases hk : 0 < b.length
   ·obtain ⟨y, hy⟩ : ∃ y, b[0]? = some y := ⟨_, List.getElem?_eq_getElem hk⟩
    obtain ⟨bB, oB, hBe, gB⟩ := eB 0 y hy
    have d1 := lf_bd a b 0 0 (by omega) (by omega)
    have d2 := lf_bd a b (0 + 1) (0 + 1) (by omega) (by omega)
    have d3 := lf_bd a b (0 + 1) 0 (by omega) (by omega)
    have d4 := bes_bd x y
    subst hAe hBe
    by_cases c1 : lf a b 0 0 = bes x y + lf a b (0 + 1) (0 + 1)
    ·repeat (first|refine lVa rfl rfl (by first|exact pEv rfl|exact vL0 rfl (by assumption) rfl (by rfl)|fail) ?_|refine lNi ?_|refine cRg ?_|refine cSq ?_|refine xTh ?_|refine l_skip rfl rfl ?_|refine c_true rfl ?_|refine cBl ?_|refine cSk ?_|refine l_dec_t rfl rfl rfl rfl rfl (by first|omega|fail) ?_|fail)
     refine r_callvJ rfl rfl rfl rfl rfl (fun W hW => hL 0 0 (0 : Nat) (0 : Nat) rfl rfl (by omega) (by omega) _ W hW) ?_
     repeat (first|refine lVa rfl rfl (by first|exact pEv rfl|fail) ?_|refine lNi ?_|refine cSq ?_|refine xTh ?_|refine cBl ?_|refine c_reads rfl (by decide +kernel) ?_|refine q_val rfl rfl (by first|exact v_add rfl rfl (by omega) (by omega)|exact pEv rfl|exact vL0 rfl (by assumption) rfl (by rfl)|exact v_index rfl rfl rfl rfl (by omega) (by omega) (by with_reducible first|exact idx2 _ _|fail)|fail) ?_|refine q_dec_t rfl rfl rfl rfl (by first|omega|fail) ?_|(refine q_call rfl rfl rfl (fun W hW => beside_calls x y W) ?_)|fail)
     refine q_callvJ rfl rfl rfl rfl rfl (fun W hW => hL (0 + 1) (0 + 1) (((0 : Nat) : Int) + 1) (((0 : Nat) : Int) + 1) (by omega) (by omega) (by omega) (by omega) _ W hW) ?_
     repeat (first|refine lVa rfl rfl (by first|exact v_add rfl rfl (by omega) (by omega)|exact pEv rfl|exact v_buildA rfl rfl rfl (by rfl)|fail) ?_|refine lNi ?_|refine cRg ?_|refine cSq ?_|refine xTh ?_|refine r_buildSlice rfl rfl rfl rfl rfl rfl (by rfl) (fun _ => ?_)|refine c_dec_t rfl (by first|omega|fail) ?_|refine q_val rfl rfl (by first|exact v_add rfl rfl (by omega) (by omega)|exact pEv rfl|fail) ?_|refine q_nil ?_|fail)
     refine r_append_nil (m := 1) (ys := prE (((0 : Nat) : Int) + 1, ((0 : Nat) : Int) + 1)) rfl rfl rfl rfl rfl rfl (news_own (by repeat constructor)) rfl rfl (by decide) (by decide) (by decide) (fun b7 c7 r7 hg7 => ?_)
     repeat (first|refine lVa rfl rfl (by first|exact pEv rfl|fail) ?_|refine lNi ?_|refine x_block ?_|fail)
     refine x_back (.more (0 + 1) (0 + 1) 1 b7 c7 r7 [(((0 : Nat) : Int) + 1, ((0 : Nat) : Int) + 1)]) ⟨⟨by decide, by omega, by omega, by omega, rfl, hg7⟩, fun _ => by have := hp (); rw [prf_both hx hy c1] at this; exact this⟩ (by simp only [LS.i, LS.k]; omega) (by repeat (first|exact .nil|refine .cons rfl (by first|rfl|(congr 1; done)|exact congrArg _ (by omega)|(simp; done)) ?_)) (by repeat (first|exact .nil|refine .keep (by first|rfl|assumption) ?_|refine .drop ?_|exact MSub.refl _))
    ·by_cases c2 : lf a b 0 0 = 2 + lf a b (0 + 1) 0
     ·repeat (first|refine lVa rfl rfl (by first|exact pEv rfl|exact vL0 rfl (by assumption) rfl (by rfl)|fail) ?_|refine lNi ?_|refine cRg ?_|refine cSq ?_|refine xTh ?_|refine l_skip rfl rfl ?_|refine c_true rfl ?_|refine cBl ?_|refine cSk ?_|refine l_dec_t rfl rfl rfl rfl rfl (by first|omega|fail) ?_|fail)
      refine r_callvJ rfl rfl rfl rfl rfl (fun W hW => hL 0 0 (0 : Nat) (0 : Nat) rfl rfl (by omega) (by omega) _ W hW) ?_
      repeat (first|refine lVa rfl rfl (by first|exact pEv rfl|fail) ?_|refine lNi ?_|refine cSq ?_|refine xTh ?_|refine cBl ?_|refine c_reads rfl (by decide +kernel) ?_|refine q_val rfl rfl (by first|exact v_add rfl rfl (by omega) (by omega)|exact pEv rfl|exact vL0 rfl (by assumption) rfl (by rfl)|exact v_index rfl rfl rfl rfl (by omega) (by omega) (by with_reducible first|exact idx2 _ _|fail)|fail) ?_|refine q_dec_t rfl rfl rfl rfl (by first|omega|fail) ?_|(refine q_call rfl rfl rfl (fun W hW => beside_calls x y W) ?_)|fail)
      refine q_callvJ rfl rfl rfl rfl rfl (fun W hW => hL (0 + 1) (0 + 1) (((0 : Nat) : Int) + 1) (((0 : Nat) : Int) + 1) (by omega) (by omega) (by omega) (by omega) _ W hW) ?_
      repeat (first|refine lVa rfl rfl (by first|exact v_add rfl rfl (by omega) (by omega)|exact pEv rfl|exact vL0 rfl (by assumption) rfl (by rfl)|fail) ?_|refine cRg ?_|refine cSq ?_|refine xTh ?_|refine c_dec_f rfl (by first|omega|fail) ?_|refine l_dec_t rfl rfl rfl rfl rfl (by first|omega|fail) ?_|refine q_val rfl rfl (by first|exact v_add rfl rfl (by omega) (by omega)|exact pEv rfl|fail) ?_|refine q_nil ?_|fail)
      refine r_callvJ rfl rfl rfl rfl rfl (fun W hW => hL (0 + 1) 0 (((0 : Nat) : Int) + 1) (0 : Nat) (by omega) rfl (by omega) (by omega) _ W hW) ?_
      repeat (first|refine lVa rfl rfl (by first|exact v_add rfl rfl (by omega) (by omega)|exact pEv rfl|exact v_buildA rfl rfl rfl (by rfl)|fail) ?_|refine lNi ?_|refine cRg ?_|refine cSq ?_|refine xTh ?_|refine r_buildSlice rfl rfl rfl rfl rfl rfl (by rfl) (fun _ => ?_)|refine c_dec_t rfl (by first|omega|fail) ?_|fail)
      refine r_append_nil (m := 1) (ys := prE (((0 : Nat) : Int) + 1, 0)) rfl rfl rfl rfl rfl rfl (news_own (by repeat constructor)) rfl rfl (by decide) (by decide) (by decide) (fun b7 c7 r7 hg7 => ?_)
      repeat (first|refine lVa rfl rfl (by first|exact pEv rfl|fail) ?_|refine lNi ?_|refine x_block ?_|fail)
      refine x_back (.more (0 + 1) 0 1 b7 c7 r7 [(((0 : Nat) : Int) + 1, 0)]) ⟨⟨by decide, by omega, by omega, by omega, rfl, hg7⟩, fun _ => by have := hp (); rw [prf_left hx hy c1 c2] at this; exact this⟩ (by simp only [LS.i, LS.k]; omega) (by repeat (first|exact .nil|refine .cons rfl (by first|rfl|(congr 1; done)|exact congrArg _ (by omega)|(simp; done)) ?_)) (by repeat (first|exact .nil|refine .keep (by first|rfl|assumption) ?_|refine .drop ?_|exact MSub.refl _))
     ·repeat (first|refine lVa rfl rfl (by first|exact pEv rfl|exact vL0 rfl (by assumption) rfl (by rfl)|fail) ?_|refine lNi ?_|refine cRg ?_|refine cSq ?_|refine xTh ?_|refine l_skip rfl rfl ?_|refine c_true rfl ?_|refine cBl ?_|refine cSk ?_|refine l_dec_t rfl rfl rfl rfl rfl (by first|omega|fail) ?_|fail)
      refine r_callvJ rfl rfl rfl rfl rfl (fun W hW => hL 0 0 (0 : Nat) (0 : Nat) rfl rfl (by omega) (by omega) _ W hW) ?_
      repeat (first|refine lVa rfl rfl (by first|exact pEv rfl|fail) ?_|refine lNi ?_|refine cSq ?_|refine xTh ?_|refine cBl ?_|refine c_reads rfl (by decide +kernel) ?_|refine q_val rfl rfl (by first|exact v_add rfl rfl (by omega) (by omega)|exact pEv rfl|exact vL0 rfl (by assumption) rfl (by rfl)|exact v_index rfl rfl rfl rfl (by omega) (by omega) (by with_reducible first|exact idx2 _ _|fail)|fail) ?_|refine q_dec_t rfl rfl rfl rfl (by first|omega|fail) ?_|(refine q_call rfl rfl rfl (fun W hW => beside_calls x y W) ?_)|fail)
      refine q_callvJ rfl rfl rfl rfl rfl (fun W hW => hL (0 + 1) (0 + 1) (((0 : Nat) : Int) + 1) (((0 : Nat) : Int) + 1) (by omega) (by omega) (by omega) (by omega) _ W hW) ?_
      repeat (first|refine lVa rfl rfl (by first|exact v_add rfl rfl (by omega) (by omega)|exact pEv rfl|exact vL0 rfl (by assumption) rfl (by rfl)|fail) ?_|refine cRg ?_|refine cSq ?_|refine xTh ?_|refine c_dec_f rfl (by first|omega|fail) ?_|refine l_dec_t rfl rfl rfl rfl rfl (by first|omega|fail) ?_|refine q_val rfl rfl (by first|exact v_add rfl rfl (by omega) (by omega)|exact pEv rfl|fail) ?_|refine q_nil ?_|fail)
      refine r_callvJ rfl rfl rfl rfl rfl (fun W hW => hL (0 + 1) 0 (((0 : Nat) : Int) + 1) (0 : Nat) (by omega) rfl (by omega) (by omega) _ W hW) ?_
      repeat (first|refine lVa rfl rfl (by first|exact v_add rfl rfl (by omega) (by omega)|exact pEv rfl|exact v_buildA rfl rfl rfl (by rfl)|fail) ?_|refine lNi ?_|refine cRg ?_|refine cSq ?_|refine xTh ?_|refine r_buildSlice rfl rfl rfl rfl rfl rfl (by rfl) (fun _ => ?_)|refine c_dec_f rfl (by first|omega|fail) ?_|fail)
      refine r_append_nil (m := 1) (ys := prE (0, ((0 : Nat) : Int) + 1)) rfl rfl rfl rfl rfl rfl (news_own (by repeat constructor)) rfl rfl (by decide) (by decide) (by decide) (fun b7 c7 r7 hg7 => ?_)
      repeat (first|refine lVa rfl rfl (by first|exact pEv rfl|fail) ?_|refine lNi ?_|refine x_block ?_|fail)
      refine x_back (.more 0 (0 + 1) 1 b7 c7 r7 [(0, ((0 : Nat) : Int) + 1)]) ⟨⟨by decide, by omega, by omega, by omega, rfl, hg7⟩, fun _ => by have := hp (); rw [prf_right hx hy c1 c2] at this; exact this⟩ (by simp only [LS.i, LS.k]; omega) (by repeat (first|exact .nil|refine .cons rfl (by first|rfl|(congr 1; done)|exact congrArg _ (by omega)|(simp; done)) ?_)) (by repeat (first|exact .nil|refine .keep (by first|rfl|assumption) ?_|refine .drop ?_|exact MSub.refl _))
   ·have hk0 : 0 = b.length := by omega
    obtain ⟨c1, c2⟩ := prf_lefts (b := b) hx hk0
    have d1 := lf_bd a b 0 0 (by omega) (by omega)
    have d3 := lf_bd a b (0 + 1) 0 (by omega) (by omega)
    subst hAe
    repeat (first|refine lVa rfl rfl (by first|exact pEv rfl|exact vL0 rfl (by assumption) rfl (by rfl)|fail) ?_|refine lNi ?_|refine cRg ?_|refine cSq ?_|refine xTh ?_|refine l_skip rfl rfl ?_|refine c_true rfl ?_|refine cBl ?_|refine cSk ?_|refine l_dec_t rfl rfl rfl rfl rfl (by first|omega|fail) ?_|fail)
    refine r_callvJ rfl rfl rfl rfl rfl (fun W hW => hL 0 0 (0 : Nat) (0 : Nat) rfl rfl (by omega) (by omega) _ W hW) ?_
    repeat (first|refine lVa rfl rfl (by first|exact v_add rfl rfl (by omega) (by omega)|exact pEv rfl|exact vL0 rfl (by assumption) rfl (by rfl)|fail) ?_|refine lNi ?_|refine cRg ?_|refine cSq ?_|refine xTh ?_|refine c_false rfl ?_|refine cBl ?_|refine l_dec_t rfl rfl rfl rfl rfl (by first|omega|fail) ?_|refine c_reads rfl (by decide +kernel) ?_|refine q_val rfl rfl (by first|exact pEv rfl|exact vL0 rfl (by assumption) rfl (by rfl)|fail) ?_|refine q_nil ?_|refine q_skip rfl rfl ?_|refine q_dec_t rfl rfl rfl rfl (by first|omega|fail) ?_|refine q_dec_f rfl rfl rfl rfl (by first|omega|fail) ?_|fail)
    refine r_callvJ rfl rfl rfl rfl rfl (fun W hW => hL (0 + 1) 0 (((0 : Nat) : Int) + 1) (0 : Nat) (by omega) rfl (by omega) (by omega) _ W hW) ?_
    repeat (first|refine lVa rfl rfl (by first|exact v_add rfl rfl (by omega) (by omega)|exact pEv rfl|exact v_buildA rfl rfl rfl (by rfl)|fail) ?_|refine lNi ?_|refine cRg ?_|refine cSq ?_|refine xTh ?_|refine r_buildSlice rfl rfl rfl rfl rfl rfl (by rfl) (fun _ => ?_)|refine c_dec_t rfl (by first|omega|fail) ?_|fail)
    refine r_append_nil (m := 1) (ys := prE (((0 : Nat) : Int) + 1, 0)) rfl rfl rfl rfl rfl rfl (news_own (by repeat constructor)) rfl rfl (by decide) (by decide) (by decide) (fun b7 c7 r7 hg7 => ?_)
    repeat (first|refine lVa rfl rfl (by first|exact pEv rfl|fail) ?_|refine lNi ?_|refine x_block ?_|fail)
    refine x_back (.more (0 + 1) 0 1 b7 c7 r7 [(((0 : Nat) : Int) + 1, 0)]) ⟨⟨by decide, by omega, by omega, by omega, rfl, hg7⟩, fun _ => by have := hp (); rw [c1] at this; exact this⟩ (by simp only [LS.i, LS.k]; omega) (by repeat (first|exact .nil|refine .cons rfl (by first|rfl|(congr 1; done)|exact congrArg _ (by omega)|(simp; done)) ?_)) (by repeat (first|exact .nil|refine .keep (by first|rfl|assumption) ?_|refine .drop ?_|exact MSub.refl _))
  by_cases hk : 0 < b.length
  ·obtain ⟨y, hy⟩ : ∃ y, b[0]? = some y := ⟨_, List.getElem?_eq_getElem hk⟩
   have c1 := prf_rights (a := a) (i := 0) (by omega) hy
   have d1 := lf_bd a b 0 0 (by omega) (by omega)
   repeat (first|refine lVa rfl rfl (by first|exact pEv rfl|exact vL0 rfl (by assumption) rfl (by rfl)|fail) ?_|refine lNi ?_|refine cRg ?_|refine cSq ?_|refine xTh ?_|refine c_dec_t rfl (by first|omega|fail) ?_|refine cBl ?_|refine cSk ?_|refine l_dec_f rfl rfl rfl rfl rfl (by first|omega|fail) ?_|fail)
   refine r_callvJ rfl rfl rfl rfl rfl (fun W hW => hL 0 0 (0 : Nat) (0 : Nat) rfl rfl (by omega) (by omega) _ W hW) ?_
   repeat (first|refine lVa rfl rfl (by first|exact v_add rfl rfl (by omega) (by omega)|exact pEv rfl|exact vL0 rfl (by assumption) rfl (by rfl)|exact v_buildA rfl rfl rfl (by rfl)|fail) ?_|refine lNi ?_|refine cRg ?_|refine cSq ?_|refine xTh ?_|refine l_skip rfl rfl ?_|refine r_buildSlice rfl rfl rfl rfl rfl rfl (by rfl) (fun _ => ?_)|refine c_false rfl ?_|refine cBl ?_|refine l_dec_f rfl rfl rfl rfl rfl (by first|omega|fail) ?_|refine c_reads rfl (by decide +kernel) ?_|refine q_val rfl rfl (by first|exact pEv rfl|exact vL0 rfl (by assumption) rfl (by rfl)|fail) ?_|refine q_nil ?_|refine q_skip rfl rfl ?_|refine q_dec_f rfl rfl rfl rfl (by first|omega|fail) ?_|fail)
   refine r_append_nil (m := 1) (ys := prE (0, ((0 : Nat) : Int) + 1)) rfl rfl rfl rfl rfl rfl (news_own (by repeat constructor)) rfl rfl (by decide) (by decide) (by decide) (fun b7 c7 r7 hg7 => ?_)
   repeat (first|refine lVa rfl rfl (by first|exact pEv rfl|fail) ?_|refine lNi ?_|refine x_block ?_|fail)
   refine x_back (.more 0 (0 + 1) 1 b7 c7 r7 [(0, ((0 : Nat) : Int) + 1)]) ⟨⟨by decide, by omega, by omega, by omega, rfl, hg7⟩, fun _ => by have := hp (); rw [c1] at this; exact this⟩ (by simp only [LS.i, LS.k]; omega) (by repeat (first|exact .nil|refine .cons rfl (by first|rfl|(congr 1; done)|exact congrArg _ (by omega)|(simp; done)) ?_)) (by repeat (first|exact .nil|refine .keep (by first|rfl|assumption) ?_|refine .drop ?_|exact MSub.refl _))
  have c1 := prf_end (a := a) (b := b) (i := 0) (k := 0) (by omega) (by omega)
  have hpl := hp ()
  rw [c1] at hpl
  repeat (first|refine lVa rfl rfl (by first|exact pEv rfl|exact vL0 rfl (by assumption) rfl (by rfl)|fail) ?_|refine lNi ?_|refine cRg ?_|refine cSq ?_|refine xTh ?_|refine c_dec_f rfl (by first|omega|fail) ?_|refine c_exit ?_|refine xTe ?_|refine xBs ?_|refine l_dec_f rfl rfl rfl rfl rfl (by first|omega|fail) ?_|fail)
  refine r_callvJ rfl rfl rfl rfl rfl (fun W hW => hL 0 0 0 0 rfl rfl (by omega) (by omega) _ W hW) ?_
  repeat (first|refine lVa rfl rfl (by first|exact pEv rfl|fail) ?_|refine lNi ?_|refine xTh ?_|refine c_ret ?_|fail)
  exact x_ret rfl rfl (by repeat constructor) rfl (fun W hW => ⟨hbel hW, .inr (.inl ⟨hE, hpl.symm, rfl⟩)⟩)
 | more i k n bp c r l =>
  obtain ⟨g1, g2, g3, g4, g5, g6⟩ := hs
  have hp : Unit -> l ++ prf a b i k = pairL a b := hp
  show RunC _ _ _ _ _ [(2, .pointer (some ⟨x2, 0, none⟩)), (3, .pointer (some ⟨x3, 0, none⟩)), (5, .slice (some ⟨bp, 0, none⟩) n c), (14, .pointer (some ⟨x14, 0, none⟩)), (15, .int .i64 (i : Int)), (16, .int .i64 (k : Int))] [(bp, .cells ⟨flatP l ++ r⟩ 54 (0, 0))]
  by_cases hi : i < a.length
  ·obtain ⟨x, hx⟩ : ∃ x, a[i]? = some x := ⟨_, List.getElem?_eq_getElem hi⟩
   obtain ⟨bA, oA, hAe, gA⟩ := eA i x hx
   by_cases hk : k < b.length
   ·obtain ⟨y, hy⟩ : ∃ y, b[k]? = some y := ⟨_, List.getElem?_eq_getElem hk⟩
    obtain ⟨bB, oB, hBe, gB⟩ := eB k y hy
    have d1 := lf_bd a b i k (by omega) (by omega)
    have d2 := lf_bd a b (i + 1) (k + 1) (by omega) (by omega)
    have d3 := lf_bd a b (i + 1) k (by omega) (by omega)
    have d4 := bes_bd x y
    subst hAe hBe
    by_cases c1 : lf a b i k = bes x y + lf a b (i + 1) (k + 1)
    ·repeat (first|refine lVa rfl rfl (by first|exact pEv rfl|exact vL0 rfl (by assumption) rfl (by rfl)|fail) ?_|refine lNi ?_|refine cRg ?_|refine cSq ?_|refine xTh ?_|refine l_skip rfl rfl ?_|refine c_true rfl ?_|refine cBl ?_|refine cSk ?_|refine l_dec_t rfl rfl rfl rfl rfl (by first|omega|fail) ?_|fail)
     refine r_callvJ rfl rfl rfl rfl rfl (fun W hW => hL i k (i : Nat) (k : Nat) rfl rfl (by omega) (by omega) _ W hW) ?_
     repeat (first|refine lVa rfl rfl (by first|exact pEv rfl|fail) ?_|refine lNi ?_|refine cSq ?_|refine xTh ?_|refine cBl ?_|refine c_reads rfl (by decide +kernel) ?_|refine q_val rfl rfl (by first|exact v_add rfl rfl (by omega) (by omega)|exact pEv rfl|exact vL0 rfl (by assumption) rfl (by rfl)|exact v_index rfl rfl rfl rfl (by omega) (by omega) (by with_reducible first|exact idx2 _ _|fail)|fail) ?_|refine q_dec_t rfl rfl rfl rfl (by first|omega|fail) ?_|(refine q_call rfl rfl rfl (fun W hW => beside_calls x y W) ?_)|fail)
     refine q_callvJ rfl rfl rfl rfl rfl (fun W hW => hL (i + 1) (k + 1) (((i : Nat) : Int) + 1) (((k : Nat) : Int) + 1) (by omega) (by omega) (by omega) (by omega) _ W hW) ?_
     repeat (first|refine lVa rfl rfl (by first|exact v_add rfl rfl (by omega) (by omega)|exact pEv rfl|exact v_buildA rfl rfl rfl (by rfl)|fail) ?_|refine lNi ?_|refine cRg ?_|refine cSq ?_|refine xTh ?_|refine r_buildSlice rfl rfl rfl rfl rfl rfl (by rfl) (fun _ => ?_)|refine c_dec_t rfl (by first|omega|fail) ?_|refine q_val rfl rfl (by first|exact v_add rfl rfl (by omega) (by omega)|exact pEv rfl|fail) ?_|refine q_nil ?_|fail)
     refine r_append (m := 1) (ys := prE (((i : Nat) : Int) + 1, ((k : Nat) : Int) + 1)) rfl rfl rfl rfl rfl rfl (news_own (by repeat constructor)) (by repeat (first|exact Rem.head|apply Rem.tail)) g6 rfl rfl (by decide) (by omega) (by unfold maxLen; omega) (fun b7 c7 r7 hg7 => ?_)
     rw [<- flatP_snoc] at hg7 ⊢
     repeat (first|refine lVa rfl rfl (by first|exact pEv rfl|fail) ?_|refine lNi ?_|refine x_block ?_|fail)
     refine x_back (.more (i + 1) (k + 1) (n + 1) b7 c7 r7 (l ++ [(((i : Nat) : Int) + 1, ((k : Nat) : Int) + 1)])) ⟨⟨by omega, by omega, by omega, by omega, by rw [List.length_append, g5]; rfl, hg7⟩, fun _ => by have := hp (); rw [prf_both hx hy c1] at this; exact (List.append_assoc l [_] _).trans this⟩ (by simp only [LS.i, LS.k]; omega) (by repeat (first|exact .nil|refine .cons rfl (by first|rfl|(congr 1; done)|exact congrArg _ (by omega)|(simp; done)) ?_)) (by repeat (first|exact .nil|refine .keep (by first|rfl|assumption) ?_|refine .drop ?_|exact MSub.refl _))
    ·by_cases c2 : lf a b i k = 2 + lf a b (i + 1) k
     ·repeat (first|refine lVa rfl rfl (by first|exact pEv rfl|exact vL0 rfl (by assumption) rfl (by rfl)|fail) ?_|refine lNi ?_|refine cRg ?_|refine cSq ?_|refine xTh ?_|refine l_skip rfl rfl ?_|refine c_true rfl ?_|refine cBl ?_|refine cSk ?_|refine l_dec_t rfl rfl rfl rfl rfl (by first|omega|fail) ?_|fail)
      refine r_callvJ rfl rfl rfl rfl rfl (fun W hW => hL i k (i : Nat) (k : Nat) rfl rfl (by omega) (by omega) _ W hW) ?_
      repeat (first|refine lVa rfl rfl (by first|exact pEv rfl|fail) ?_|refine lNi ?_|refine cSq ?_|refine xTh ?_|refine cBl ?_|refine c_reads rfl (by decide +kernel) ?_|refine q_val rfl rfl (by first|exact v_add rfl rfl (by omega) (by omega)|exact pEv rfl|exact vL0 rfl (by assumption) rfl (by rfl)|exact v_index rfl rfl rfl rfl (by omega) (by omega) (by with_reducible first|exact idx2 _ _|fail)|fail) ?_|refine q_dec_t rfl rfl rfl rfl (by first|omega|fail) ?_|(refine q_call rfl rfl rfl (fun W hW => beside_calls x y W) ?_)|fail)
      refine q_callvJ rfl rfl rfl rfl rfl (fun W hW => hL (i + 1) (k + 1) (((i : Nat) : Int) + 1) (((k : Nat) : Int) + 1) (by omega) (by omega) (by omega) (by omega) _ W hW) ?_
      repeat (first|refine lVa rfl rfl (by first|exact v_add rfl rfl (by omega) (by omega)|exact pEv rfl|exact vL0 rfl (by assumption) rfl (by rfl)|fail) ?_|refine cRg ?_|refine cSq ?_|refine xTh ?_|refine c_dec_f rfl (by first|omega|fail) ?_|refine l_dec_t rfl rfl rfl rfl rfl (by first|omega|fail) ?_|refine q_val rfl rfl (by first|exact v_add rfl rfl (by omega) (by omega)|exact pEv rfl|fail) ?_|refine q_nil ?_|fail)
      refine r_callvJ rfl rfl rfl rfl rfl (fun W hW => hL (i + 1) k (((i : Nat) : Int) + 1) (k : Nat) (by omega) rfl (by omega) (by omega) _ W hW) ?_
      repeat (first|refine lVa rfl rfl (by first|exact v_add rfl rfl (by omega) (by omega)|exact pEv rfl|exact v_buildA rfl rfl rfl (by rfl)|fail) ?_|refine lNi ?_|refine cRg ?_|refine cSq ?_|refine xTh ?_|refine r_buildSlice rfl rfl rfl rfl rfl rfl (by rfl) (fun _ => ?_)|refine c_dec_t rfl (by first|omega|fail) ?_|fail)
      refine r_append (m := 1) (ys := prE (((i : Nat) : Int) + 1, 0)) rfl rfl rfl rfl rfl rfl (news_own (by repeat constructor)) (by repeat (first|exact Rem.head|apply Rem.tail)) g6 rfl rfl (by decide) (by omega) (by unfold maxLen; omega) (fun b7 c7 r7 hg7 => ?_)
      rw [<- flatP_snoc] at hg7 ⊢
      repeat (first|refine lVa rfl rfl (by first|exact pEv rfl|fail) ?_|refine lNi ?_|refine x_block ?_|fail)
      refine x_back (.more (i + 1) k (n + 1) b7 c7 r7 (l ++ [(((i : Nat) : Int) + 1, 0)])) ⟨⟨by omega, by omega, by omega, by omega, by rw [List.length_append, g5]; rfl, hg7⟩, fun _ => by have := hp (); rw [prf_left hx hy c1 c2] at this; exact (List.append_assoc l [_] _).trans this⟩ (by simp only [LS.i, LS.k]; omega) (by repeat (first|exact .nil|refine .cons rfl (by first|rfl|(congr 1; done)|exact congrArg _ (by omega)|(simp; done)) ?_)) (by repeat (first|exact .nil|refine .keep (by first|rfl|assumption) ?_|refine .drop ?_|exact MSub.refl _))
     ·repeat (first|refine lVa rfl rfl (by first|exact pEv rfl|exact vL0 rfl (by assumption) rfl (by rfl)|fail) ?_|refine lNi ?_|refine cRg ?_|refine cSq ?_|refine xTh ?_|refine l_skip rfl rfl ?_|refine c_true rfl ?_|refine cBl ?_|refine cSk ?_|refine l_dec_t rfl rfl rfl rfl rfl (by first|omega|fail) ?_|fail)
      refine r_callvJ rfl rfl rfl rfl rfl (fun W hW => hL i k (i : Nat) (k : Nat) rfl rfl (by omega) (by omega) _ W hW) ?_
      repeat (first|refine lVa rfl rfl (by first|exact pEv rfl|fail) ?_|refine lNi ?_|refine cSq ?_|refine xTh ?_|refine cBl ?_|refine c_reads rfl (by decide +kernel) ?_|refine q_val rfl rfl (by first|exact v_add rfl rfl (by omega) (by omega)|exact pEv rfl|exact vL0 rfl (by assumption) rfl (by rfl)|exact v_index rfl rfl rfl rfl (by omega) (by omega) (by with_reducible first|exact idx2 _ _|fail)|fail) ?_|refine q_dec_t rfl rfl rfl rfl (by first|omega|fail) ?_|(refine q_call rfl rfl rfl (fun W hW => beside_calls x y W) ?_)|fail)
      refine q_callvJ rfl rfl rfl rfl rfl (fun W hW => hL (i + 1) (k + 1) (((i : Nat) : Int) + 1) (((k : Nat) : Int) + 1) (by omega) (by omega) (by omega) (by omega) _ W hW) ?_
      repeat (first|refine lVa rfl rfl (by first|exact v_add rfl rfl (by omega) (by omega)|exact pEv rfl|exact vL0 rfl (by assumption) rfl (by rfl)|fail) ?_|refine cRg ?_|refine cSq ?_|refine xTh ?_|refine c_dec_f rfl (by first|omega|fail) ?_|refine l_dec_t rfl rfl rfl rfl rfl (by first|omega|fail) ?_|refine q_val rfl rfl (by first|exact v_add rfl rfl (by omega) (by omega)|exact pEv rfl|fail) ?_|refine q_nil ?_|fail)
      refine r_callvJ rfl rfl rfl rfl rfl (fun W hW => hL (i + 1) k (((i : Nat) : Int) + 1) (k : Nat) (by omega) rfl (by omega) (by omega) _ W hW) ?_
      repeat (first|refine lVa rfl rfl (by first|exact v_add rfl rfl (by omega) (by omega)|exact pEv rfl|exact v_buildA rfl rfl rfl (by rfl)|fail) ?_|refine lNi ?_|refine cRg ?_|refine cSq ?_|refine xTh ?_|refine r_buildSlice rfl rfl rfl rfl rfl rfl (by rfl) (fun _ => ?_)|refine c_dec_f rfl (by first|omega|fail) ?_|fail)
      refine r_append (m := 1) (ys := prE (0, ((k : Nat) : Int) + 1)) rfl rfl rfl rfl rfl rfl (news_own (by repeat constructor)) (by repeat (first|exact Rem.head|apply Rem.tail)) g6 rfl rfl (by decide) (by omega) (by unfold maxLen; omega) (fun b7 c7 r7 hg7 => ?_)
      rw [<- flatP_snoc] at hg7 ⊢
      repeat (first|refine lVa rfl rfl (by first|exact pEv rfl|fail) ?_|refine lNi ?_|refine x_block ?_|fail)
      refine x_back (.more i (k + 1) (n + 1) b7 c7 r7 (l ++ [(0, ((k : Nat) : Int) + 1)])) ⟨⟨by omega, by omega, by omega, by omega, by rw [List.length_append, g5]; rfl, hg7⟩, fun _ => by have := hp (); rw [prf_right hx hy c1 c2] at this; exact (List.append_assoc l [_] _).trans this⟩ (by simp only [LS.i, LS.k]; omega) (by repeat (first|exact .nil|refine .cons rfl (by first|rfl|(congr 1; done)|exact congrArg _ (by omega)|(simp; done)) ?_)) (by repeat (first|exact .nil|refine .keep (by first|rfl|assumption) ?_|refine .drop ?_|exact MSub.refl _))
   ·have hk0 : k = b.length := by omega
    obtain ⟨c1, c2⟩ := prf_lefts (b := b) hx hk0
    have d1 := lf_bd a b i k (by omega) (by omega)
    have d3 := lf_bd a b (i + 1) k (by omega) (by omega)
    subst hAe
    repeat (first|refine lVa rfl rfl (by first|exact pEv rfl|exact vL0 rfl (by assumption) rfl (by rfl)|fail) ?_|refine lNi ?_|refine cRg ?_|refine cSq ?_|refine xTh ?_|refine l_skip rfl rfl ?_|refine c_true rfl ?_|refine cBl ?_|refine cSk ?_|refine l_dec_t rfl rfl rfl rfl rfl (by first|omega|fail) ?_|fail)
    refine r_callvJ rfl rfl rfl rfl rfl (fun W hW => hL i k (i : Nat) (k : Nat) rfl rfl (by omega) (by omega) _ W hW) ?_
    repeat (first|refine lVa rfl rfl (by first|exact v_add rfl rfl (by omega) (by omega)|exact pEv rfl|exact vL0 rfl (by assumption) rfl (by rfl)|fail) ?_|refine lNi ?_|refine cRg ?_|refine cSq ?_|refine xTh ?_|refine c_false rfl ?_|refine cBl ?_|refine l_dec_t rfl rfl rfl rfl rfl (by first|omega|fail) ?_|refine c_reads rfl (by decide +kernel) ?_|refine q_val rfl rfl (by first|exact pEv rfl|exact vL0 rfl (by assumption) rfl (by rfl)|fail) ?_|refine q_nil ?_|refine q_skip rfl rfl ?_|refine q_dec_t rfl rfl rfl rfl (by first|omega|fail) ?_|refine q_dec_f rfl rfl rfl rfl (by first|omega|fail) ?_|fail)
    refine r_callvJ rfl rfl rfl rfl rfl (fun W hW => hL (i + 1) k (((i : Nat) : Int) + 1) (k : Nat) (by omega) rfl (by omega) (by omega) _ W hW) ?_
    repeat (first|refine lVa rfl rfl (by first|exact v_add rfl rfl (by omega) (by omega)|exact pEv rfl|exact v_buildA rfl rfl rfl (by rfl)|fail) ?_|refine lNi ?_|refine cRg ?_|refine cSq ?_|refine xTh ?_|refine r_buildSlice rfl rfl rfl rfl rfl rfl (by rfl) (fun _ => ?_)|refine c_dec_t rfl (by first|omega|fail) ?_|fail)
    refine r_append (m := 1) (ys := prE (((i : Nat) : Int) + 1, 0)) rfl rfl rfl rfl rfl rfl (news_own (by repeat constructor)) (by repeat (first|exact Rem.head|apply Rem.tail)) g6 rfl rfl (by decide) (by omega) (by unfold maxLen; omega) (fun b7 c7 r7 hg7 => ?_)
    rw [<- flatP_snoc] at hg7 ⊢
    repeat (first|refine lVa rfl rfl (by first|exact pEv rfl|fail) ?_|refine lNi ?_|refine x_block ?_|fail)
    refine x_back (.more (i + 1) k (n + 1) b7 c7 r7 (l ++ [(((i : Nat) : Int) + 1, 0)])) ⟨⟨by omega, by omega, by omega, by omega, by rw [List.length_append, g5]; rfl, hg7⟩, fun _ => by have := hp (); rw [c1] at this; exact (List.append_assoc l [_] _).trans this⟩ (by simp only [LS.i, LS.k]; omega) (by repeat (first|exact .nil|refine .cons rfl (by first|rfl|(congr 1; done)|exact congrArg _ (by omega)|(simp; done)) ?_)) (by repeat (first|exact .nil|refine .keep (by first|rfl|assumption) ?_|refine .drop ?_|exact MSub.refl _))
  by_cases hk : k < b.length
  ·obtain ⟨y, hy⟩ : ∃ y, b[k]? = some y := ⟨_, List.getElem?_eq_getElem hk⟩
   have c1 := prf_rights (a := a) (i := i) (by omega) hy
   have d1 := lf_bd a b i k (by omega) (by omega)
   repeat (first|refine lVa rfl rfl (by first|exact pEv rfl|exact vL0 rfl (by assumption) rfl (by rfl)|fail) ?_|refine lNi ?_|refine cRg ?_|refine cSq ?_|refine xTh ?_|refine c_dec_t rfl (by first|omega|fail) ?_|refine cBl ?_|refine cSk ?_|refine l_dec_f rfl rfl rfl rfl rfl (by first|omega|fail) ?_|fail)
   refine r_callvJ rfl rfl rfl rfl rfl (fun W hW => hL i k (i : Nat) (k : Nat) rfl rfl (by omega) (by omega) _ W hW) ?_
   repeat (first|refine lVa rfl rfl (by first|exact v_add rfl rfl (by omega) (by omega)|exact pEv rfl|exact vL0 rfl (by assumption) rfl (by rfl)|exact v_buildA rfl rfl rfl (by rfl)|fail) ?_|refine lNi ?_|refine cRg ?_|refine cSq ?_|refine xTh ?_|refine l_skip rfl rfl ?_|refine r_buildSlice rfl rfl rfl rfl rfl rfl (by rfl) (fun _ => ?_)|refine c_false rfl ?_|refine cBl ?_|refine l_dec_f rfl rfl rfl rfl rfl (by first|omega|fail) ?_|refine c_reads rfl (by decide +kernel) ?_|refine q_val rfl rfl (by first|exact pEv rfl|exact vL0 rfl (by assumption) rfl (by rfl)|fail) ?_|refine q_nil ?_|refine q_skip rfl rfl ?_|refine q_dec_f rfl rfl rfl rfl (by first|omega|fail) ?_|fail)
   refine r_append (m := 1) (ys := prE (0, ((k : Nat) : Int) + 1)) rfl rfl rfl rfl rfl rfl (news_own (by repeat constructor)) (by repeat (first|exact Rem.head|apply Rem.tail)) g6 rfl rfl (by decide) (by omega) (by unfold maxLen; omega) (fun b7 c7 r7 hg7 => ?_)
   rw [<- flatP_snoc] at hg7 ⊢
   repeat (first|refine lVa rfl rfl (by first|exact pEv rfl|fail) ?_|refine lNi ?_|refine x_block ?_|fail)
   refine x_back (.more i (k + 1) (n + 1) b7 c7 r7 (l ++ [(0, ((k : Nat) : Int) + 1)])) ⟨⟨by omega, by omega, by omega, by omega, by rw [List.length_append, g5]; rfl, hg7⟩, fun _ => by have := hp (); rw [c1] at this; exact (List.append_assoc l [_] _).trans this⟩ (by simp only [LS.i, LS.k]; omega) (by repeat (first|exact .nil|refine .cons rfl (by first|rfl|(congr 1; done)|exact congrArg _ (by omega)|(simp; done)) ?_)) (by repeat (first|exact .nil|refine .keep (by first|rfl|assumption) ?_|refine .drop ?_|exact MSub.refl _))
  have c1 := prf_end (a := a) (b := b) (i := i) (k := k) (by omega) (by omega)
  have hpl := hp ()
  rw [c1, List.append_nil] at hpl
  repeat (first|refine lVa rfl rfl (by first|exact pEv rfl|exact vL0 rfl (by assumption) rfl (by rfl)|fail) ?_|refine lNi ?_|refine cRg ?_|refine cSq ?_|refine xTh ?_|refine c_dec_f rfl (by first|omega|fail) ?_|refine c_exit ?_|refine xTe ?_|refine xBs ?_|refine l_dec_f rfl rfl rfl rfl rfl (by first|omega|fail) ?_|fail)
  refine r_callvJ rfl rfl rfl rfl rfl (fun W hW => hL 0 0 0 0 rfl rfl (by omega) (by omega) _ W hW) ?_
  repeat (first|refine lVa rfl rfl (by first|exact pEv rfl|fail) ?_|refine lNi ?_|refine xTh ?_|refine c_ret ?_|fail)
  have hn : n = (pairL a b).length := by rw [<- hpl, g5]
  refine x_ret rfl rfl (by repeat constructor) rfl (fun W hW => ⟨hbel hW, .inr (.inr ⟨hE, fun h => by rw [h] at hn; simp at hn; omega, bp, c, r, ?_, hown hW (q := (bp, _)) (by repeat constructor), ?_⟩)⟩)
  ·rw [hn]; rfl
  ·have := (hW.own (bp, _) (by repeat constructor)).2; rw [<- hpl]; exact this
end R41
end Go.Proofs
