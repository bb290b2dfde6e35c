/- Rights: what stands, walked: the iterator over the register. -/
import Derived.Test.YtajnkdgbpffinaaGreatRgC
set_option maxRecDepth 100000
set_option maxHeartbeats 400000000
set_option linter.unusedSectionVars false
set_option linter.unusedVariables false
set_option linter.unusedSimpArgs false
namespace Go.Proofs
open Go.RowKit Go.Kin Go.Kin.Cl
namespace R41
/-- what has been voided -/
def goneF (time : Int) (m : List (Int × Value)) (x : Rg) : List (Int × Value) := if x.kind = 4 /\ x.kn <= time then imPut m (IntKind.i64.wrap (x.of - 1)) (.bool true) else m
def goneL (time : Int) (l : List Rg) : List (Int × Value) := l.foldl (goneF time) []
def allT (m : List (Int × Value)) : Prop := ∀ (q : Int) (v : Value), imGet m q = some v -> v = .bool true
theorem allT_nil : allT [] := fun q v h => by cases h
theorem allT_put {m : List (Int × Value)} (h : allT m) {k : Int} : allT (imPut m k (.bool true)) := fun q v hv => by
 rw [imPut_get] at hv
 by_cases e : q = k
 ·rw [if_pos e] at hv; cases hv; rfl
 ·rw [if_neg e] at hv; exact h q v hv
theorem goneL_snoc {time : Int} {l : List Rg} {x : Rg} : goneL time (l ++ [x]) = goneF time (goneL time l) x := by unfold goneL; rw [List.foldl_append]; rfl
theorem goneF_T {time : Int} {m : List (Int × Value)} {x : Rg} (h : allT m) : allT (goneF time m x) := by
 unfold goneF
 split
 ·exact allT_put h
 ·exact h
theorem goneL_T (time : Int) : ∀ (l : List Rg) (m : List (Int × Value)), allT m -> allT (l.foldl (goneF time) m)
 | [], _, h => h
 | x :: l, m, h => goneL_T time l _ (goneF_T h)
def pS (s : List (Int × Value)) (day time : Int) (x : Rg) : Bool := decide (x.kind ≠ 4) && (decide (x.kn <= time) && (wiB day x.f x.t && !(imGet s x.no).isSome))
def stL (day time : Int) (l : List Rg) : List Rg := l.filter (pS (goneL time l) day time)
theorem fil_take {α : Type} {p : α -> Bool} {l : List α} {k : Nat} {x : α} (h : l[k]? = some x) : (l.take (k + 1)).filter p = (l.take k).filter p ++ (if p x then [x] else []) := by
 rw [List.take_add_one, h, List.filter_append]
 by_cases hp : p x <;> simp [hp]
theorem fil_get {α : Type} {p : α -> Bool} {l : List α} {k : Nat} {x : α} (h : l[k]? = some x) (hp : p x = true) : (l.filter p)[((l.take k).filter p).length]? = some x := by
 have e : l = l.take (k + 1) ++ l.drop (k + 1) := (List.take_append_drop _ _).symm
 have e2 : l.filter p = ((l.take k).filter p ++ [x]) ++ (l.drop (k + 1)).filter p := by
  conv => lhs; rw [e]
  rw [List.filter_append, fil_take h, if_pos hp]
 rw [e2, List.append_assoc, List.getElem?_append_right (Nat.le_refl _), Nat.sub_self]; rfl
theorem imGet_T {s : List (Int × Value)} (h : allT s) (q : Int) : (match imGet s q with | some v => v | none => .bool false) = .bool (imGet s q).isSome := by
 cases e : imGet s q with
 | none => rfl
 | some v => rw [h q v e]; rfl
theorem ext_blk {W : World} {R : Nat -> Prop} {b : Nat} {cs : List Value} {T : TypeId} (h : W.heap[b]? = some (.cells ⟨cs⟩ T (0, 0))) (hR : R b) : Ext W R b 0 cs := ⟨hR, fun i v hi => by
 unfold World.cell?; rw [h, Nat.zero_add]; simpa using hi⟩
theorem std99_it (R : Nat -> Prop) (b3 b5 b4 b7 bm : Nat) (A : Option Addr) (cap : Nat) (l : List Rg) (day time : Int) (s : List (Int × Value)) (W : World) (hl : l.length <= 100000)
  (h3 : W.heap[b3]? = some (.cells ⟨[.slice A l.length cap]⟩ 24 (0, 0))) (h5 : W.heap[b5]? = some (.cells ⟨[.int .i64 time]⟩ 3 (0, 0))) (h4 : W.heap[b4]? = some (.cells ⟨[.int .i64 day]⟩ 3 (0, 0))) (h7 : W.heap[b7]? = some (.cells ⟨[.map (some bm)]⟩ 113 (0, 0)))
  (hm : W.heap[bm]? = some (imO s)) (hA : Kin.At W A 11 (l.map rgE)) (hs : allT s) (hR : ∀ k, R k -> k < W.heap.size) (r3 : R b3) (r5 : R b5) (r4 : R b4) (r7 : R b7) (rm : R bm) (hRA : ∀ a, A = some a -> l ≠ [] -> R a.block) :
  It Tryz.prog 99 [.pointer (some ⟨b3, 0, none⟩), .pointer (some ⟨b5, 0, none⟩), .pointer (some ⟨b4, 0, none⟩), .pointer (some ⟨b7, 0, none⟩)] (fun x => [.agg ⟨rgE x⟩]) (l.filter (pS s day time)) R W := by
 intro lp J Jx cJ cJx hy h0
 have e3 := ext_blk h3 r3
 have e5 := ext_blk h5 r5
 have e4 := ext_blk h4 r4
 have e7 := ext_blk h7 r7
 have hsat : SatW W R (J 0) [] W := ⟨Same.refl _ _, hR, List.nodup_nil, fun p hp => (by cases hp), cJ 0, cJ 0 _ _ _ _ h0 (Same.refl _ _) fun b hb => (by cases hb)⟩
 obtain ⟨n, hn⟩ : ∃ n, l.length = n := ⟨_, rfl⟩
 rw [hn] at e3 hl
 refine fEn Tryz.func99 rfl Tryz.ntmps99 rfl rfl hsat ?_
 repeat (first|refine lVa rfl rfl (by first|exact pEv rfl|exact vL0 rfl (by assumption) rfl (by rfl)|fail) ?_|refine lNi ?_|refine cRg ?_|refine cSq ?_|refine xTh ?_|refine cBl ?_|fail)
 refine c_loopD (ι := Nat) (fun k => k <= n) (fun _ => []) (fun k => J ((l.take k).filter (pS s day time)).length) (fun k => [(0, .func (.yield lp) ⟨[]⟩ ⟨[]⟩), (1, .pointer (some ⟨b3, 0, none⟩)), (2, .pointer (some ⟨b5, 0, none⟩)), (3, .pointer (some ⟨b4, 0, none⟩)), (4, .pointer (some ⟨b7, 0, none⟩)), (8, .slice A n cap), (9, .int .i64 n), (10, .int .i64 k)]) (fun _ => []) (fun k => n - k) 0 (by omega) rfl rfl (by repeat (first|exact .nil|refine .cons rfl (by first|rfl|(congr 1; done)|exact congrArg _ (by omega)|(simp; done)) ?_)) (by repeat (first|exact .nil|refine .keep (by first|rfl|assumption) ?_|refine .drop ?_|exact MSub.refl _)) ?_
 intro k hk
 by_cases hlt : k < n
 rotate_left
 ·have hkl : k = n := by omega
  have hfin : ((l.take k).filter (pS s day time)).length = (l.filter (pS s day time)).length := by rw [hkl, <- hn, List.take_length]
  repeat ((fail_if_success refine c_probe (id := 5) ?_); (fail_if_success refine c_probe1 (id := 5) ?_); first|refine lVa rfl rfl (by first|exact pEv rfl|fail) ?_|refine lNi ?_|refine cRg ?_|refine cSq ?_|refine xTh ?_|refine c_dec_f rfl (by first|omega|fail) ?_|refine c_exit ?_|refine xTe ?_|refine xBs ?_|fail)
  exact x_end rfl rfl (by repeat constructor) rfl (fun W hW => ⟨⟨_, rfl⟩, .inl ⟨_, by rw [<- hfin]; exact hW.word⟩⟩)
 obtain ⟨x, hx⟩ : ∃ x, l[k]? = some x := ⟨_, List.getElem?_eq_getElem (by omega)⟩
 obtain ⟨b', o, hAb, hc⟩ := hA k (rgE x) (by rw [List.getElem?_map, hx]; rfl)
 have he : Ext W R b' (o + k * 11) (rgE x) := ⟨hRA _ hAb (fun e => by subst e; simp at hx), hc⟩
 rw [hAb]
 have ht := fil_take (p := pS s day time) hx
 have hg := fil_get (p := pS s day time) hx
 have hnext : pS s day time x = false -> ((l.take (k + 1)).filter (pS s day time)).length = ((l.take k).filter (pS s day time)).length := fun h => by rw [ht, h]; simp
 have hlk := imGet_T hs x.no
 have hps : pS s day time x = (decide (x.kind ≠ 4) && (decide (x.kn <= time) && (wiB day x.f x.t && !(imGet s x.no).isSome))) := rfl
 repeat ((fail_if_success refine c_probe (id := 3) ?_); (fail_if_success refine c_probe1 (id := 3) ?_); first|refine lVa rfl rfl (by first|exact pEv rfl|exact vL0 rfl (by assumption) rfl (by rfl)|exact v_index rfl rfl rfl rfl (by omega) (by omega) (by with_reducible first|exact idx4 _ _ _|fail)|fail) ?_|refine lNi ?_|refine cRg ?_|refine cSq ?_|refine xTh ?_|refine r_alloc rfl rfl rfl (by first|exact aggL|fail) (fun _ => ?_)|refine rSt rfl rfl rfl rfl rfl rfl rfl (by repeat constructor) (by rfl) ?_|refine c_dec_t rfl (by first|omega|fail) ?_|refine cBl ?_|refine cSk ?_|fail)
 by_cases k4 : x.kind = 4
 ·have hn' := hnext (by rw [hps, decide_eq_false (not_not_intro k4)]; rfl)
  repeat ((fail_if_success refine c_probe (id := 5) ?_); (fail_if_success refine c_probe1 (id := 5) ?_); first|refine lVa rfl rfl (by first|exact v_add rfl rfl (by omega) (by omega)|exact pEv rfl|exact vLd rfl (by repeat constructor) rfl (by rfl)|exact vL0 rfl (by assumption) rfl (by rfl)|fail) ?_|refine lNi ?_|refine cRg ?_|refine cSq ?_|refine xTh ?_|refine l_skip rfl rfl ?_|refine c_false rfl ?_|refine cSk ?_|refine x_block ?_|refine l_dec_f rfl rfl rfl rfl rfl (by first|omega|fail) ?_|fail)
  exact x_backD (k + 1) (by omega) (by omega) rfl (by rw [hn']) (by repeat (first|exact .nil|refine .cons rfl (by first|rfl|(congr 1; done)|exact congrArg _ (by omega)|(simp; done)) ?_)) (by repeat (first|exact .nil|refine .keep (by first|rfl|assumption) ?_|refine .drop ?_|exact MSub.refl _))
 by_cases kt : x.kn <= time
 rotate_left
 ·have hn' := hnext (by rw [hps, decide_eq_false kt]; simp)
  repeat ((fail_if_success refine c_probe (id := 5) ?_); (fail_if_success refine c_probe1 (id := 5) ?_); first|refine lVa rfl rfl (by first|exact v_add rfl rfl (by omega) (by omega)|exact pEv rfl|exact vLd rfl (by repeat constructor) rfl (by rfl)|exact vL0 rfl (by assumption) rfl (by rfl)|fail) ?_|refine lNi ?_|refine cRg ?_|refine cSq ?_|refine xTh ?_|refine l_skip rfl rfl ?_|refine c_false rfl ?_|refine cSk ?_|refine x_block ?_|refine l_dec_t rfl rfl rfl rfl rfl (by first|omega|fail) ?_|refine l_dec_f rfl rfl rfl rfl rfl (by first|omega|fail) ?_|fail)
  exact x_backD (k + 1) (by omega) (by omega) rfl (by rw [hn']) (by repeat (first|exact .nil|refine .cons rfl (by first|rfl|(congr 1; done)|exact congrArg _ (by omega)|(simp; done)) ?_)) (by repeat (first|exact .nil|refine .keep (by first|rfl|assumption) ?_|refine .drop ?_|exact MSub.refl _))
 rw [decide_eq_true k4, decide_eq_true kt, Bool.true_and, Bool.true_and] at hps
 have hw1 := fun W => within39_calls day x.f x.t W
 generalize wiB day x.f x.t = q0 at *
 generalize (imGet s x.no).isSome = q1 at *
 repeat ((fail_if_success refine c_probe (id := 5) ?_); (fail_if_success refine c_probe1 (id := 5) ?_); first|refine lVa rfl rfl (by first|exact pEv rfl|exact vLd rfl (by repeat constructor) rfl (by rfl)|exact vL0 rfl (by assumption) rfl (by rfl)|fail) ?_|refine cRg ?_|refine cSq ?_|refine l_dec_t rfl rfl rfl rfl rfl (by first|omega|fail) ?_|fail)
 refine r_call rfl rfl rfl (fun W hW => hw1 W) ?_
 cases q0 with
 | false =>
  have hn' := hnext (by rw [hps]; rfl)
  repeat ((fail_if_success refine c_probe (id := 5) ?_); (fail_if_success refine c_probe1 (id := 5) ?_); first|refine lVa rfl rfl (by first|exact v_add rfl rfl (by omega) (by omega)|exact pEv rfl|exact vLd rfl (by repeat constructor) rfl (by rfl)|exact vL0 rfl (by assumption) rfl (by rfl)|fail) ?_|refine lNi ?_|refine cRg ?_|refine xTh ?_|refine l_skip rfl rfl ?_|refine c_false rfl ?_|refine cSk ?_|refine x_block ?_|fail)
  exact x_backD (k + 1) (by omega) (by omega) rfl (by rw [hn']) (by repeat (first|exact .nil|refine .cons rfl (by first|rfl|(congr 1; done)|exact congrArg _ (by omega)|(simp; done)) ?_)) (by repeat (first|exact .nil|refine .keep (by first|rfl|assumption) ?_|refine .drop ?_|exact MSub.refl _))
 | true =>
 repeat ((fail_if_success refine c_probe (id := 5) ?_); (fail_if_success refine c_probe1 (id := 5) ?_); first|refine lVa rfl rfl (by first|exact pEv rfl|exact vLd rfl (by repeat constructor) rfl (by rfl)|exact vL0 rfl (by assumption) rfl (by rfl)|fail) ?_|fail)
 refine lVa rfl rfl (v_imGetG rfl rfl rfl rfl rfl (.far rm hm) hlk) ?_
 cases q1 with
 | true =>
  have hn' := hnext (by rw [hps]; rfl)
  repeat ((fail_if_success refine c_probe (id := 5) ?_); (fail_if_success refine c_probe1 (id := 5) ?_); first|refine lVa rfl rfl (by first|exact v_add rfl rfl (by omega) (by omega)|exact pEv rfl|exact vLd rfl (by repeat constructor) rfl (by rfl)|fail) ?_|refine lNi ?_|refine cRg ?_|refine xTh ?_|refine l_skip rfl rfl ?_|refine c_false rfl ?_|refine cSk ?_|refine x_block ?_|fail)
  exact x_backD (k + 1) (by omega) (by omega) rfl (by rw [hn']) (by repeat (first|exact .nil|refine .cons rfl (by first|rfl|(congr 1; done)|exact congrArg _ (by omega)|(simp; done)) ?_)) (by repeat (first|exact .nil|refine .keep (by first|rfl|assumption) ?_|refine .drop ?_|exact MSub.refl _))
 | false =>
 have hp : pS s day time x = true := by rw [hps]; rfl
 have hgx := hg hp
 obtain ⟨hlx, hex⟩ := List.getElem?_eq_some_iff.1 hgx
 have hn' : ((l.take (k + 1)).filter (pS s day time)).length = ((l.take k).filter (pS s day time)).length + 1 := by rw [ht, hp]; simp
 repeat ((fail_if_success refine c_probe (id := 5) ?_); (fail_if_success refine c_probe1 (id := 5) ?_); first|refine lVa rfl rfl (by first|exact pEv rfl|exact vLd rfl (by repeat constructor) rfl (by rfl)|fail) ?_|fail)
 refine l_yield rfl rfl rfl rfl rfl (cJ (((l.take k).filter (pS s day time)).length + 1)) (cJx ((l.take k).filter (pS s day time)).length) (fun S A hj hS => by have := hy _ hlx S A hj hS; rw [hex] at this; exact this) ?_ (fun W0 => ?_)
 ·repeat ((fail_if_success refine c_probe (id := 5) ?_); (fail_if_success refine c_probe1 (id := 5) ?_); first|refine lVa rfl rfl (by first|exact v_add rfl rfl (by omega) (by omega)|exact pEv rfl|fail) ?_|refine lNi ?_|refine cRg ?_|refine xTh ?_|refine c_false rfl ?_|refine cSk ?_|refine x_block ?_|fail)
  exact x_backD (k + 1) (by omega) (by omega) rfl (by rw [hn']) (by repeat (first|exact .nil|refine .cons rfl (by first|rfl|(congr 1; done)|exact congrArg _ (by omega)|(simp; done)) ?_)) (by repeat (first|exact .nil|refine .keep (by first|rfl|assumption) ?_|refine .drop ?_|exact MSub.refl _))
 ·repeat ((fail_if_success refine c_probe (id := 5) ?_); (fail_if_success refine c_probe1 (id := 5) ?_); first|refine lVa rfl rfl (by first|exact pEv rfl|fail) ?_|refine lNi ?_|refine xTh ?_|refine c_true rfl ?_|refine c_ret ?_|refine xTr ?_|refine xBr ?_|fail)
  exact x_ret rfl rfl (by repeat constructor) rfl (fun W hW => ⟨⟨_, rfl⟩, .inr ⟨_, hlx, _, hW.word⟩⟩)
end R41
end Go.Proofs

set_option maxRecDepth 100000
set_option maxHeartbeats 400000000
namespace Go.Proofs
open Go.RowKit Go.Kin Go.Kin.Cl
namespace R41
structure StI where
 b3 : Nat
 b5 : Nat
 b4 : Nat
 b7 : Nat
 bm : Nat
@[reducible] def StI.lb (i : StI) : List Value := [.pointer (some ⟨i.b3, 0, none⟩), .pointer (some ⟨i.b5, 0, none⟩), .pointer (some ⟨i.b4, 0, none⟩), .pointer (some ⟨i.b7, 0, none⟩)]
@[reducible] def StI.v (i : StI) : Value := .func (.func 99) ⟨[]⟩ ⟨i.lb⟩
@[reducible] def StI.m (A : Option Addr) (cap n : Nat) (day time : Int) (s : List (Int × Value)) (i : StI) : List (Nat × Obj) :=
  [(i.b7, .cells ⟨[.map (some i.bm)]⟩ 113 (0, 0)), (i.bm, imO s), (i.b5, .cells ⟨[.int .i64 time]⟩ 3 (0, 0)), (i.b4, .cells ⟨[.int .i64 day]⟩ 3 (0, 0)), (i.b3, .cells ⟨[.slice A n cap]⟩ 24 (0, 0))]
theorem standing70_calls (A : Option Addr) (cap : Nat) (l : List Rg) (day time : Int) (w : World) (hA : Kin.At w A 11 (l.map rgE)) (hl : l.length <= 100000) :
  Calls Tryz.prog 70 ⟨[.slice A l.length cap, .int .i64 day, .int .i64 time]⟩ w (FrQ [] StI.v (StI.m A cap l.length day time (goneL time l)) w) := by
 have hsat := frQ_start (W := w) (pre := []) (by simp) fun p hp => by cases hp
 obtain ⟨n, hn⟩ : ∃ n, l.length = n := ⟨_, rfl⟩
 rw [hn] at hl ⊢
 refine fEn Tryz.func70 rfl Tryz.ntmps70 rfl rfl hsat ?_
 repeat ((fail_if_success refine c_probe (id := 1) ?_); (fail_if_success refine c_probe1 (id := 1) ?_); first|refine lVa rfl rfl (by first|exact pEv rfl|fail) ?_|refine lNi ?_|refine cRg ?_|refine cSq ?_|refine xTh ?_|refine r_box rfl rfl rfl rfl (fun _ => ?_)|fail)
 rename_i b3 b4 b5
 refine cSq ?_
 refine cRg ?_
 refine r_makeMap rfl rfl (fun bm => ?_)
 repeat ((fail_if_success refine c_probe (id := 3) ?_); (fail_if_success refine c_probe1 (id := 3) ?_); first|refine lVa rfl rfl (by first|exact pEv rfl|exact vLd rfl (by repeat constructor) rfl (by rfl)|fail) ?_|refine lNi ?_|refine cRg ?_|refine cSq ?_|refine xTh ?_|refine r_alloc rfl rfl rfl (by first|exact aggL|fail) (fun _ => ?_)|refine rSt rfl rfl rfl rfl rfl rfl rfl (by repeat constructor) (by rfl) ?_|refine cBl ?_|fail)
 rename_i b7
 refine c_loop (ι := Nat) (fun k => k <= n) (fun k => [(3, .pointer (some ⟨b3, 0, none⟩)), (5, .pointer (some ⟨b5, 0, none⟩)), (4, .pointer (some ⟨b4, 0, none⟩)), (7, .pointer (some ⟨b7, 0, none⟩)), (11, .slice A n cap), (12, .int .i64 n), (13, .int .i64 k)])
  (fun k => (StI.mk b3 b5 b4 b7 bm).m A cap n day time (goneL time (l.take k))) (fun k => n - k) 0 (Nat.zero_le _) (by repeat (first|exact .nil|refine .cons rfl (by first|rfl|(congr 1; done)|exact congrArg _ (by omega)|(simp; done)) ?_)) (by repeat (first|exact .nil|refine .keep (by first|rfl|assumption) ?_|refine .drop ?_|exact MSub.refl _)) ?_
 intro k hk
 by_cases hlt : k < n
 rotate_left
 ·have hkl : k = n := by omega
  rw [hkl, <- hn, List.take_length, hn]
  repeat ((fail_if_success refine c_probe (id := 9) ?_); (fail_if_success refine c_probe1 (id := 9) ?_); first|refine lVa rfl rfl (by first|exact pEv rfl|fail) ?_|refine lNi ?_|refine cRg ?_|refine cSq ?_|refine xTh ?_|refine c_dec_f rfl (by first|omega|fail) ?_|refine c_ret ?_|refine c_exit ?_|refine xTe ?_|refine xBs ?_|fail)
  exact x_ret rfl rfl (by repeat constructor) rfl (fun W hW => ⟨⟨b3, b5, b4, b7, bm⟩, rfl, hW⟩)
 obtain ⟨x, hx⟩ : ∃ x, l[k]? = some x := ⟨_, List.getElem?_eq_getElem (by omega)⟩
 obtain ⟨b', o, hAb, hc⟩ := hA k (rgE x) (by rw [List.getElem?_map, hx]; rfl)
 have he : Ext w (allBut w (List.map (·.1) ([] : List (Nat × Obj)))) b' (o + k * 11) (rgE x) := ⟨⟨lt_of_cell (hc 0 _ rfl), by simp⟩, hc⟩
 rw [hAb]
 have htk : goneL time (l.take (k + 1)) = goneF time (goneL time (l.take k)) x := by rw [List.take_add_one, hx]; exact goneL_snoc
 repeat ((fail_if_success refine c_probe (id := 5) ?_); (fail_if_success refine c_probe1 (id := 5) ?_); first|refine lVa rfl rfl (by first|exact pEv rfl|exact vL0 rfl (by assumption) rfl (by rfl)|exact v_index rfl rfl rfl rfl (by omega) (by omega) (by with_reducible first|exact idx4 _ _ _|fail)|fail) ?_|refine lNi ?_|refine cRg ?_|refine cSq ?_|refine xTh ?_|refine r_alloc rfl rfl rfl (by first|exact aggL|fail) (fun _ => ?_)|refine rSt rfl rfl rfl rfl rfl rfl rfl (by repeat constructor) (by rfl) ?_|refine c_dec_t rfl (by first|omega|fail) ?_|refine cBl ?_|refine cSk ?_|fail)
 by_cases k4 : x.kind = 4
 rotate_left
 ·have hn' : goneL time (l.take (k + 1)) = goneL time (l.take k) := by rw [htk]; exact if_neg fun h => k4 h.1
  repeat ((fail_if_success refine c_probe (id := 9) ?_); (fail_if_success refine c_probe1 (id := 9) ?_); first|refine lVa rfl rfl (by first|exact v_add rfl rfl (by omega) (by omega)|exact pEv rfl|exact vLd rfl (by repeat constructor) rfl (by rfl)|fail) ?_|refine lNi ?_|refine cRg ?_|refine cSq ?_|refine xTh ?_|refine l_skip rfl rfl ?_|refine c_false rfl ?_|refine cSk ?_|refine x_block ?_|refine l_dec_f rfl rfl rfl rfl rfl (by first|omega|fail) ?_|fail)
  exact x_back (k + 1) hlt (by omega) (by repeat (first|exact .nil|refine .cons rfl (by first|rfl|(congr 1; done)|exact congrArg _ (by omega)|(simp; done)) ?_)) (by rw [hn']; exact (by repeat (first|exact .nil|refine .keep (by first|rfl|assumption) ?_|refine .drop ?_|exact MSub.refl _)))
 by_cases kt : x.kn <= time
 rotate_left
 ·have hn' : goneL time (l.take (k + 1)) = goneL time (l.take k) := by rw [htk]; exact if_neg fun h => kt h.2
  repeat ((fail_if_success refine c_probe (id := 9) ?_); (fail_if_success refine c_probe1 (id := 9) ?_); first|refine lVa rfl rfl (by first|exact v_add rfl rfl (by omega) (by omega)|exact pEv rfl|exact vLd rfl (by repeat constructor) rfl (by rfl)|fail) ?_|refine lNi ?_|refine cRg ?_|refine cSq ?_|refine xTh ?_|refine c_dec_f rfl (by first|omega|fail) ?_|refine cSk ?_|refine x_block ?_|refine l_dec_t rfl rfl rfl rfl rfl (by first|omega|fail) ?_|fail)
  exact x_back (k + 1) hlt (by omega) (by repeat (first|exact .nil|refine .cons rfl (by first|rfl|(congr 1; done)|exact congrArg _ (by omega)|(simp; done)) ?_)) (by rw [hn']; exact (by repeat (first|exact .nil|refine .keep (by first|rfl|assumption) ?_|refine .drop ?_|exact MSub.refl _)))
 obtain ⟨q, hq⟩ : ∃ q, IntKind.i64.wrap (x.of - 1) = q := ⟨_, rfl⟩
 have hn' : goneL time (l.take (k + 1)) = imPut (goneL time (l.take k)) q (.bool true) := by rw [htk, <- hq]; exact if_pos ⟨k4, kt⟩
 repeat ((fail_if_success refine c_probe (id := 9) ?_); (fail_if_success refine c_probe1 (id := 9) ?_); first|refine lVa rfl rfl (v_subW rfl rfl hq) ?_|refine l_do rfl (d_imPut (s := goneL time (l.take k)) (k := q) (v := .bool true) rfl rfl rfl rfl rfl (by repeat constructor)) ?_|refine lVa rfl rfl (by first|exact v_add rfl rfl (by omega) (by omega)|exact pEv rfl|exact vLd rfl (by repeat constructor) rfl (by rfl)|fail) ?_|refine lNi ?_|refine cRg ?_|refine cSq ?_|refine xTh ?_|refine c_dec_t rfl (by first|omega|fail) ?_|refine x_block ?_|refine l_dec_t rfl rfl rfl rfl rfl (by first|omega|fail) ?_|fail)
 exact x_back (k + 1) hlt (by omega) (by repeat (first|exact .nil|refine .cons rfl (by first|rfl|(congr 1; done)|exact congrArg _ (by omega)|(simp; done)) ?_)) (by rw [hn']; exact (by repeat (first|exact .nil|refine .keep (by first|rfl|assumption) ?_|refine .drop ?_|exact MSub.refl _)))
end R41
end Go.Proofs
