/- The engine's rule for regions that draw their order, and read and store: one walk, in the order of the text. Generic: no program is named here. -/
import Derived.Test.YtcodoembnjemkaaGreatEng8
set_option linter.unusedSectionVars false
set_option linter.unusedVariables false
set_option linter.unusedSimpArgs false
namespace Go
open Go.RowKit
namespace Kin

/-! ## Rows of cells, written in part -/
def splice (cs : List Value) (f : Nat) (vs : List Value) : List Value := cs.take f ++ vs ++ cs.drop (f + vs.length)
theorem splice_len {cs vs : List Value} {f : Nat} (h : f + vs.length <= cs.length) : (splice cs f vs).length = cs.length := by
 simp only [splice, List.length_append, List.length_take, List.length_drop]; omega
theorem splice_get {cs vs : List Value} {f : Nat} (h : f + vs.length <= cs.length) (i : Nat) : (splice cs f vs)[i]? = if f <= i /\ i < f + vs.length then vs[i - f]? else cs[i]? := by
 unfold splice
 rw [List.append_assoc, List.getElem?_append]
 have h1 : (cs.take f).length = f := by rw [List.length_take]; omega
 rw [h1]
 by_cases h2 : i < f
 ·rw [if_pos h2, if_neg (by omega), List.getElem?_take, if_pos h2]
 ·rw [if_neg h2, List.getElem?_append]
  by_cases h3 : i - f < vs.length
  ·rw [if_pos h3, if_pos (by omega)]
  ·rw [if_neg h3, if_neg (by omega), List.getElem?_drop]
   congr 1; omega
theorem splice_comm {cs vs us : List Value} {f g : Nat} (h1 : f + vs.length <= cs.length) (h2 : g + us.length <= cs.length) (hd : f + vs.length <= g ∨ g + us.length <= f) : splice (splice cs f vs) g us = splice (splice cs g us) f vs := by
 apply List.ext_getElem?
 intro i
 rw [splice_get (by rw [splice_len h1]; exact h2), splice_get h1, splice_get (by rw [splice_len h2]; exact h1), splice_get h2]
 by_cases a : g <= i /\ i < g + us.length
 ·rw [if_pos a, if_neg (by omega), if_pos a]
 ·rw [if_neg a, if_neg a]

/-! ## Blocks that are left out -/
def keepM {α : Type} (f : Nat -> Bool) : Nat -> List α -> List α
 | _, [] => []
 | k, x :: m => bif f k then keepM f (k + 1) m else x :: keepM f (k + 1) m
theorem keepM_sub {α : Type} (f : Nat -> Bool) (k : Nat) (m : List α) : List.Sublist (keepM f k m) m := by
 induction m generalizing k with
 | nil => exact List.nil_sublist _
 | cons x m ih =>
  simp only [keepM]
  cases f k with
  | true => exact (ih _).cons _
  | false => exact (ih _).cons_cons _
theorem keepM_set {α : Type} (f : Nat -> Bool) (k p : Nat) (m : List α) (x : α) (h : f (k + p) = true) : keepM f k (m.set p x) = keepM f k m := by
 induction m generalizing k p with
 | nil => rfl
 | cons y m ih =>
  cases p with
  | zero => rw [Nat.add_zero] at h; simp only [List.set_cons_zero, keepM, h, cond_true]
  | succ p => simp only [List.set_cons_succ, keepM]; rw [ih (k + 1) p (by rw [<- h]; congr 1; omega)]

theorem upd_set {m : List (Nat × Obj)} {p b : Nat} {o o' : Obj} (h : m[p]? = some (b, o)) : Upd m b o o' (m.set p (b, o')) := by
 induction m generalizing p with
 | nil => cases h
 | cons x m ih =>
  cases p with
  | zero => simp only [List.getElem?_cons_zero, Option.some.injEq] at h; subst h; exact Upd.head
  | succ p => exact Upd.tail (ih (by simpa using h))

/-! ## What each operation waits for -/
def ancF (md : Region.Mode) (acc : List Nat) (o : Oper) : Nat := o.after.toList.foldl (fun m e => bif Region.binds md e then m ||| (2 ^ e.on) ||| acc.getD e.on 0 else m) 0
def ancL (md : Region.Mode) : List Oper -> List Nat -> List Nat
 | [], acc => acc
 | o :: l, acc => ancL md l (acc ++ [ancF md acc o])
def ancs (md : Region.Mode) (ops : Array Oper) : List Nat := ancL md ops.toList []

/-- what is listed waits for nothing that is not -/
def ClosedL (md : Region.Mode) (ops : Array Oper) (listed : Array Bool) : Prop :=
 ∀ j oj, ops[j]? = some oj -> listed.getD j false = true -> ∀ e ∈ oj.after, Region.binds md e = true -> listed.getD e.on false = true

def AncOk (md : Region.Mode) (ops : Array Oper) (acc : List Nat) : Prop :=
 ∀ (k m : Nat), acc[k]? = some m -> ∀ listed, ClosedL md ops listed -> (∀ o : Oper, ops[k]? = some o -> ∀ e ∈ o.after, Region.binds md e = true -> listed.getD e.on false = true) -> ∀ i, m.testBit i = true -> listed.getD i false = true

theorem ancF_ok {md : Region.Mode} {ops : Array Oper} {acc : List Nat} (h : AncOk md ops acc) {o : Oper} {listed : Array Bool} (hc : ClosedL md ops listed)
  (hd : ∀ e ∈ o.after, Region.binds md e = true -> listed.getD e.on false = true) {i : Nat} (hi : (ancF md acc o).testBit i = true) : listed.getD i false = true := by
 have : ∀ (es : List Edge) (m : Nat), (∀ e ∈ es, e ∈ o.after) -> (m.testBit i = true -> listed.getD i false = true) ->
   (es.foldl (fun m e => bif Region.binds md e then m ||| (2 ^ e.on) ||| acc.getD e.on 0 else m) m).testBit i = true -> listed.getD i false = true := by
  intro es
  induction es with
  | nil => intro m _ h1 h2; exact h1 h2
  | cons e es ih =>
   intro m hin h1 h2
   refine ih _ (fun e he => hin e (List.mem_cons_of_mem _ he)) ?_ h2
   intro h3
   replace h3 : (bif Region.binds md e then m ||| (2 ^ e.on) ||| acc.getD e.on 0 else m).testBit i = true := h3
   cases hb : Region.binds md e with
   | false => rw [hb] at h3; exact h1 h3
   | true =>
    rw [hb] at h3
    have hon := hd e (hin e List.mem_cons_self) hb
    simp only [cond_true, Nat.testBit_or, Bool.or_eq_true] at h3
    rcases h3 with (h3 | h3) | h3
    ·exact h1 h3
    ·rw [Nat.testBit_two_pow] at h3
     have : e.on = i := by simpa using h3
     rw [<- this]; exact hon
    ·rw [List.getD_eq_getElem?_getD] at h3
     cases hk : acc[e.on]? with
     | none => rw [hk] at h3; simp at h3
     | some mk =>
      rw [hk] at h3
      exact h e.on mk hk listed hc (fun o' ho' e' he' hb' => hc e.on o' ho' hon e' he' hb') i h3
 exact this o.after.toList 0 (fun e he => by simpa using he) (fun h => by simp at h) hi

theorem ancL_ok {md : Region.Mode} {ops : Array Oper} : ∀ (l : List Oper) (acc : List Nat), (∀ j, l[j]? = ops[acc.length + j]?) -> AncOk md ops acc -> AncOk md ops (ancL md l acc)
 | [], _, _, h => h
 | o :: l, acc, hl, h => by
  refine ancL_ok l (acc ++ [ancF md acc o]) (fun j => by have := hl (j + 1); simpa [Nat.add_assoc, Nat.add_comm 1 j] using this) ?_
  intro k m hk listed hc hd i hi
  by_cases hlt : k < acc.length
  ·rw [List.getElem?_append_left hlt] at hk
   exact h k m hk listed hc hd i hi
  ·rw [List.getElem?_append_right (by omega)] at hk
   have hka : k = acc.length := by
    have := (List.getElem?_eq_some_iff.1 hk).1
    simp only [List.length_singleton] at this; omega
   subst hka
   simp only [Nat.sub_self, List.getElem?_cons_zero, Option.some.injEq] at hk
   subst hk
   have h0 := hl 0
   simp only [List.getElem?_cons_zero, Nat.add_zero] at h0
   exact ancF_ok h hc (hd o h0.symm) hi

theorem ancs_ok {md : Region.Mode} {ops : Array Oper} : AncOk md ops (ancs md ops) := ancL_ok ops.toList [] (by simp) (fun k m hk => by cases hk)

def waitsB (an : List Nat) (j i : Nat) : Bool := (an.getD j 0).testBit i

/-- Of two that are both ready, neither waits for the other. -/
theorem ready_free {md : Region.Mode} {ops : Array Oper} {listed : Array Bool} (hc : ClosedL md ops listed) {i j : Nat} (hi : i ∈ Region.ready md ops listed) (hj : j ∈ Region.ready md ops listed) : waitsB (ancs md ops) j i = false := by
 obtain ⟨hiu, _⟩ := mem_ready.1 hi
 obtain ⟨_, oj, hoj, hall⟩ := mem_ready.1 hj
 cases hw : waitsB (ancs md ops) j i with
 | false => rfl
 | true =>
  unfold waitsB at hw
  rw [List.getD_eq_getElem?_getD] at hw
  cases hk : (ancs md ops)[j]? with
  | none => rw [hk] at hw; simp at hw
  | some m =>
   rw [hk] at hw
   have h1 := ancs_ok j m hk listed hc (fun o ho e he hb => by rw [hoj] at ho; cases ho; exact hall e he hb) i hw
   rw [getD_both hiu] at h1
   cases h1

theorem ClosedL.set {md : Region.Mode} {ops : Array Oper} {listed : Array Bool} (h : ClosedL md ops listed) {i : Nat} (hi : i ∈ Region.ready md ops listed) : ClosedL md ops (listed.setIfInBounds i true) := by
 obtain ⟨_, oi, hoi, hall⟩ := mem_ready.1 hi
 intro j oj hj hl e he hb
 by_cases hij : i = j
 ·subst hij
  have : oj = oi := Option.some.inj (hj.symm.trans hoi)
  subst this
  exact getD_set_true (hall e he hb)
 ·rw [getD_set_ne false hij] at hl
  exact getD_set_true (h j oj hj hl e he hb)

/-! ## The walk of operations on a list of blocks -/
abbrev Mem := List (Nat × Obj)
/-- the stores: number, place in the list of blocks, first cell, how many -/
abbrev Sts := List (Nat × Nat × Nat × Nat)
def posOf (st : Sts) (i : Nat) : Option (Nat × Nat × Nat) := (st.find? (fun s => s.1 == i)).map (·.2)
def wrB (an : List Nat) (st : Sts) (i p : Nat) : Bool := st.any fun s => s.2.1 == p && s.1 != i && !waitsB an s.1 i && !waitsB an i s.1
/-- the stores write different cells -/
def Apart (st : Sts) : Prop := ∀ s ∈ st, ∀ t ∈ st, s.1 ≠ t.1 -> s.2.1 ≠ t.2.1 ∨ s.2.2.1 + s.2.2.2 <= t.2.2.1 ∨ t.2.2.1 + t.2.2.2 <= s.2.2.1

theorem posOf_mem {st : Sts} {i : Nat} {r : Nat × Nat × Nat} (h : posOf st i = some r) : (i, r) ∈ st := by
 unfold posOf at h
 cases hf : st.find? (fun s => s.1 == i) with
 | none => rw [hf] at h; cases h
 | some s =>
  rw [hf] at h
  simp only [Option.map_some, Option.some.injEq] at h
  have h1 := List.mem_of_find?_eq_some hf
  have h2 := List.find?_some hf
  simp only [beq_iff_eq] at h2
  subst h; subst h2
  exact h1

section
variable {P : Program} {ops : Array Oper} {C : Mem -> World -> Prop} {st : Sts} {wr : Nat -> Nat -> Bool} {Lq : Act -> Mem -> Prop}

inductive Eff (P : Program) (ops : Array Oper) (C : Mem -> World -> Prop) (st : Sts) (wr : Nat -> Nat -> Bool) (o : Oper) (i : Nat) (a : Act) (m : Mem) : Value -> Mem -> Prop
 | val {v : Value} (hw : Region.wanted o (yielded ops a.tmps) = true) (hp : plainOp o.op = true) (h : ∀ W, C (keepM (wr i) 0 m) W -> (execOp a.eval o).run P W = .ok (.value v) W) : Eff P ops C st wr o i a m v m
 | sto {p f b : Nat} {cs vs : List Value} {T : TypeId} (hw : Region.wanted o (yielded ops a.tmps) = true) (hp : plainOp o.op = true) (h1 : posOf st i = some (p, f, vs.length)) (h2 : m[p]? = some (b, .cells ⟨cs⟩ T (0, 0))) (h3 : f + vs.length <= cs.length)
   (h : ∀ (W : World) (cs' : List Value), cs'.length = cs.length -> W.heap[b]? = some (.cells ⟨cs'⟩ T (0, 0)) -> (execOp a.eval o).run P W = .ok .skip (W.setRow b (splice cs' f vs).toArray)) :
   Eff P ops C st wr o i a m undef (m.set p (b, .cells ⟨splice cs f vs⟩ T (0, 0)))
 | skip (hw : Region.wanted o (yielded ops a.tmps) = false) : Eff P ops C st wr o i a m undef m

theorem Eff.of_same {o : Oper} {i : Nat} {a a' : Act} {m m' : Mem} {v : Value} (h : Eff P ops C st wr o i a m v m') (he : execOp a'.eval o = execOp a.eval o) (hw : Region.wanted o (yielded ops a'.tmps) = Region.wanted o (yielded ops a.tmps)) : Eff P ops C st wr o i a' m v m' := by
 cases h with
 | val h1 h2 h3 => exact .val (hw.trans h1) h2 (by rw [he]; exact h3)
 | sto h1 h2 h3 h4 h5 h6 => exact .sto (hw.trans h1) h2 h3 h4 h5 (by rw [he]; exact h6)
 | skip h1 => exact .skip (hw.trans h1)

/-- Two that do not wait for each other. -/
theorem Eff.swap {oi oj : Oper} {i j : Nat} {a : Act} {m m1 m2 : Mem} {v u : Value} (hij : i ≠ j) (hap : oi.apart ops oj = true) (hsi : ∀ cs b, oi.op ≠ .select cs b) (hsj : ∀ cs b, oj.op ≠ .select cs b)
  (s1 : ∀ r, posOf st j = some r -> wr i r.1 = true) (s2 : ∀ r, posOf st i = some r -> wr j r.1 = true) (s3 : Apart st)
  (hi : Eff P ops C st wr oi i a m v m1) (hj : Eff P ops C st wr oj j (a.put oi.dst v) m1 u m2) : ∃ m1', Eff P ops C st wr oj j a m u m1' /\ Eff P ops C st wr oi i (a.put oj.dst u) m1' v m2 := by
 obtain ⟨h1, h2, h3⟩ := Oper.apart_spec hap
 have hk := hj.of_same (execOp_put oj hsj a oi.dst v h1).symm (wanted_put oj a oi.dst v h1).symm
 clear hj
 suffices ∃ m1', Eff P ops C st wr oj j a m u m1' /\ Eff P ops C st wr oi i a m1' v m2 by
  obtain ⟨m1', g1, g2⟩ := this
  exact ⟨m1', g1, g2.of_same (execOp_put oi hsi a oj.dst u h3) (wanted_put oi a oj.dst u h3)⟩
 cases hi with
 | val e1 e2 e3 =>
  refine ⟨m2, hk, ?_⟩
  refine .val e1 e2 ?_
  cases hk with
  | val => exact e3
  | skip => exact e3
  | sto g1 g2 g3 g4 g5 g6 => rw [keepM_set _ _ _ _ _ (by rw [Nat.zero_add]; exact s1 _ g3)]; exact e3
 | skip e1 => exact ⟨m2, hk, .skip e1⟩
 | sto e1 e2 e3 e4 e5 e6 =>
  cases hk with
  | val g1 g2 g3 =>
   refine ⟨m, .val g1 g2 ?_, .sto e1 e2 e3 e4 e5 e6⟩
   rw [keepM_set _ _ _ _ _ (by rw [Nat.zero_add]; exact s2 _ e3)] at g3
   exact g3
  | skip g1 => exact ⟨m, .skip g1, .sto e1 e2 e3 e4 e5 e6⟩
  | sto g1 g2 g3 g4 g5 g6 =>
   rename_i p f b cs vs T q g b' cs' us T'
   have hd := s3 _ (posOf_mem e3) _ (posOf_mem g3) hij
   simp only at hd
   by_cases hpq : p = q
   ·subst hpq
    have hlt := (List.getElem?_eq_some_iff.1 e4).1
    rw [List.getElem?_set_self hlt] at g4
    simp only [Option.some.injEq, Prod.mk.injEq, Obj.cells.injEq, Array.mk.injEq] at g4
    obtain ⟨rfl, rfl, rfl, _⟩ := g4
    have hl : (splice cs f vs).length = cs.length := splice_len e5
    rw [hl] at g5 g6
    refine ⟨_, .sto g1 g2 g3 e4 g5 g6, ?_⟩
    have := Eff.sto (P := P) (ops := ops) (C := C) (st := st) (wr := wr) (o := oi) (i := i) (a := a) (m := m.set p (b, .cells ⟨splice cs g us⟩ T (0, 0))) (cs := splice cs g us) e1 e2 e3 (List.getElem?_set_self hlt) (by rw [splice_len g5]; exact e5) (by rw [splice_len g5]; exact e6)
    rw [List.set_set] at this ⊢
    rw [splice_comm e5 g5 (by omega)]
    exact this
   ·rw [List.getElem?_set_ne hpq] at g4
    refine ⟨_, .sto g1 g2 g3 g4 g5 g6, ?_⟩
    have := Eff.sto (P := P) (ops := ops) (C := C) (st := st) (wr := wr) (o := oi) (i := i) (a := a) (m := m.set q (b', .cells ⟨splice cs' g us⟩ T' (0, 0))) (cs := cs) e1 e2 e3 (by rw [List.getElem?_set_ne (Ne.symm hpq)]; exact e4) e5 e6
    rw [List.set_comm _ _ hpq]
    exact this

/-- whatever order -/
def gAny (P : Program) (ops : Array Oper) (C : Mem -> World -> Prop) (st : Sts) (wr : Nat -> Nat -> Bool) (Lq : Act -> Mem -> Prop) : Nat -> Array Bool -> Act -> Mem -> Prop
 | 0, listed, a, m => Region.ready .any ops listed = [] /\ Lq a m
 | f + 1, listed, a, m => Region.ready .any ops listed ≠ [] /\ ∀ i ∈ Region.ready .any ops listed, ∀ o, ops[i]? = some o -> ∃ v m', Eff P ops C st wr o i a m v m' /\ gAny P ops C st wr Lq f (listed.setIfInBounds i true) (a.put o.dst v) m'

/-- in the order of the text -/
def gSeq (P : Program) (ops : Array Oper) (C : Mem -> World -> Prop) (st : Sts) (wr : Nat -> Nat -> Bool) (Lq : Act -> Mem -> Prop) : List Oper -> Nat -> Act -> Mem -> Prop
 | [], _, a, m => Lq a m
 | o :: l, k, a, m => ∃ v m', Eff P ops C st wr o k a m v m' /\ gSeq P ops C st wr Lq l (k + 1) (a.put o.dst v) m'

theorem gAny_first {i : Nat} {oi : Oper} (hi : ops[i]? = some oi) (hsel : ∀ (j : Nat) (o : Oper) cs b, ops[j]? = some o -> o.op ≠ .select cs b) (s3 : Apart st) :
  ∀ (f : Nat) (listed : Array Bool) (a : Act) (m m1 : Mem) (v : Value), ClosedL .any ops listed ->
   (∀ j oj, ops[j]? = some oj -> j ≠ i -> listed.getD j true = false -> (∀ e ∈ oj.after, Region.binds .any e = true -> e.on ≠ i) -> oi.apart ops oj = true) ->
   i ∈ Region.ready .any ops listed -> Eff P ops C st (wrB (ancs .any ops) st) oi i a m v m1 ->
   gAny P ops C st (wrB (ancs .any ops) st) Lq f (listed.setIfInBounds i true) (a.put oi.dst v) m1 -> gAny P ops C st (wrB (ancs .any ops) st) Lq (f + 1) listed a m := by
 intro f
 induction f with
 | zero =>
  intro listed a m m1 v _ _ hr hy H
  refine ⟨fun h => (by rw [h] at hr; cases hr), fun j hj o ho => ?_⟩
  by_cases hji : j = i
  ·subst hji
   rw [hi] at ho; cases ho
   exact ⟨v, m1, hy, H⟩
  ·have := ready_mono hj hji
   rw [H.1] at this
   cases this
 | succ f ih =>
  intro listed a m m1 v hcl hfree hr hy H
  refine ⟨fun h => (by rw [h] at hr; cases hr), fun j hj oj hoj => ?_⟩
  by_cases hji : j = i
  ·subst hji
   rw [hi] at hoj; cases hoj
   exact ⟨v, m1, hy, H⟩
  ·obtain ⟨u, m2, h1, h2⟩ := H.2 j (ready_mono hj hji) oj hoj
   obtain ⟨hjun, oj', hoj', hall⟩ := mem_ready.1 hj
   rw [hoj] at hoj'; cases hoj'
   have hnot : ∀ e ∈ oj.after, Region.binds .any e = true -> e.on ≠ i := fun e he hb heq => by
    have h1 := hall e he hb
    have h0 := (mem_ready.1 hr).1
    rw [heq] at h1
    rcases Nat.lt_or_ge i listed.size with h' | h'
    ·simp [h'] at h0 h1; rw [h0] at h1; cases h1
    ·simp [Array.getElem?_eq_none h'] at h1
   have hap := hfree j oj hoj hji hjun hnot
   have f1 := ready_free hcl hr hj
   have f2 := ready_free hcl hj hr
   have s1 : ∀ r, posOf st j = some r -> wrB (ancs .any ops) st i r.1 = true := fun r hrr => by
    unfold wrB
    refine List.any_eq_true.2 ⟨_, posOf_mem hrr, ?_⟩
    simp [hji, f1, f2]
   have s2 : ∀ r, posOf st i = some r -> wrB (ancs .any ops) st j r.1 = true := fun r hrr => by
    unfold wrB
    refine List.any_eq_true.2 ⟨_, posOf_mem hrr, ?_⟩
    simp [Ne.symm hji, f1, f2]
   obtain ⟨m1', g1, g2⟩ := Eff.swap (Ne.symm hji) hap (fun cs b => hsel i oi cs b hi) (fun cs b => hsel j oj cs b hoj) s1 s2 s3 hy h1
   have hfree' : ∀ k ok, ops[k]? = some ok -> k ≠ i -> (listed.setIfInBounds j true).getD k true = false ->
     (∀ e ∈ ok.after, Region.binds .any e = true -> e.on ≠ i) -> oi.apart ops ok = true := fun k ok hk hki hun hno => by
    refine hfree k ok hk hki ?_ hno
    by_cases hjk : j = k
    ·subst hjk; exact hjun
    ·rw [getD_set_ne true hjk] at hun; exact hun
   refine ⟨u, m1', g1, ih (listed.setIfInBounds j true) _ _ m2 v (hcl.set hj) hfree' (ready_mono hr (Ne.symm hji)) g2 ?_⟩
   rw [Array.setIfInBounds_comm _ _ hji, <- Act.put_comm a v u (Oper.apart_spec hap).2.1]
   exact h2

theorem gAny_lex (hs : Region.noSelect ops = true) (s3 : Apart st) : ∀ (l : List Oper) (k : Nat) (listed : Array Bool) (a : Act) (m : Mem), ClosedL .any ops listed -> (∀ j, l[j]? = ops[k + j]?) ->
  Region.lexFrom .any ops l.length k listed = true -> gSeq P ops C st (wrB (ancs .any ops) st) Lq l k a m -> gAny P ops C st (wrB (ancs .any ops) st) Lq l.length listed a m
 | [], _, _, _, _, _, _, hB, h => ⟨by simpa [Region.lexFrom] using hB, h⟩
 | o :: l, k, listed, a, m, hcl, hl, hB, h => by
  have h0 : ops[k]? = some o := by simpa using (hl 0).symm
  simp only [List.length_cons, Region.lexFrom, Bool.and_eq_true] at hB
  obtain ⟨⟨hr, hf⟩, hB'⟩ := hB
  obtain ⟨v, m', h1, h2⟩ := h
  have hr' : k ∈ Region.ready .any ops listed := by simpa using hr
  exact gAny_first h0 (Region.noSelect_spec hs) s3 l.length listed a m m' v hcl (Region.free_spec h0 hf) hr' h1
   (gAny_lex hs s3 l (k + 1) _ _ _ (hcl.set hr') (fun j => by have := hl (j + 1); simpa [Nat.add_assoc, Nat.add_comm 1 j] using this) hB' h2)
end

section
variable {P : Program} {N : Nat} {c : Cx} {Q : Exit -> Act -> World -> Prop} {env : List (Nat × Value)} {mem : List (Nat × Obj)} {L l : List Oper} [Wide c.F]
 {tt : List (TypeId × TI)} {d : Nat} {ty : TypeId} {pos : String} {af : Array Edge} {g : Option (Nat × Bool)} {st : Sts} {wr : Nat -> Nat -> Bool}

abbrev Cx.C (c : Cx) : Mem -> World -> Prop := fun m W => SatW c.w0 c.D c.J m W

theorem wpAnyIn_of_gAny {ops : Array Oper} {Lq : Act -> Mem -> Prop} (hL : ∀ a m W, Lq a m -> SatW c.w0 c.D c.J m W -> Q .normal a W) : ∀ (f : Nat) (listed : Array Bool) (a : Act) (m : Mem) (W : World), SatW c.w0 c.D c.J m W ->
  gAny P ops c.C st wr Lq f listed a m -> wpAnyIn c.F c.n P .any ops Q f listed a W
 | 0, _, _, _, _, hm, h => ⟨h.1, hL _ _ _ h.2 hm⟩
 | f + 1, listed, a, m, W, hm, h => by
  refine ⟨fun h0 => absurd h0 h.1, fun i hi => ?_⟩
  obtain ⟨_, o, ho, _⟩ := mem_ready.1 hi
  obtain ⟨v, m', h1, h2⟩ := h.2 i hi o ho
  unfold wpOpIn
  simp only [ho]
  cases h1 with
  | val e1 e2 e3 =>
   rw [if_pos e1]
   refine ⟨fun f _ => Wide.fn c.F f, ?_⟩
   rw [semAt_plain _ e2, e3 W (hm.mono (keepM_sub _ _ _))]
   exact wpAnyIn_of_gAny hL f _ _ _ _ hm h2
  | sto e1 e2 e3 e4 e5 e6 =>
   rw [if_pos e1]
   refine ⟨fun f _ => Wide.fn c.F f, ?_⟩
   rename_i p' f' b' cs' vs' T'
   have hu := upd_set (o' := .cells ⟨splice cs' f' vs'⟩ T' (0, 0)) e4
   rw [semAt_plain _ e2, e6 W _ rfl (hm.own _ hu.isIn).2]
   exact wpAnyIn_of_gAny hL f _ _ _ _ (hm.put hu) h2
  | skip e1 =>
   rw [if_neg (by rw [e1]; exact Bool.false_ne_true)]
   exact ⟨fun f _ => Wide.fn c.F f, wpAnyIn_of_gAny hL f _ _ _ _ hm h2⟩

/-- the places that an operation may not read: those that are written, but for those that are named -/
def rowB (st : Sts) (rd : List (Nat × Nat)) (i p : Nat) : Bool := st.any (fun s => s.2.1 == p) && !(rd.any fun r => r.1 == i && r.2 == p)

theorem rowB_ok {an : List Nat} {st : Sts} {rd : List (Nat × Nat)} (h : (rd.all fun r => !wrB an st r.1 r.2) = true) {i p : Nat} (hr : rowB st rd i p = false) : wrB an st i p = false := by
 unfold rowB at hr
 rw [Bool.and_eq_false_iff] at hr
 rcases hr with hr | hr
 ·cases hw : wrB an st i p with
  | false => rfl
  | true =>
   unfold wrB at hw
   obtain ⟨s, hs, h2⟩ := List.any_eq_true.1 hw
   simp only [Bool.and_eq_true] at h2
   have : st.any (fun s => s.2.1 == p) = true := List.any_eq_true.2 ⟨s, hs, h2.1.1.1⟩
   rw [hr] at this; cases this
 ·have : (rd.any fun r => r.1 == i && r.2 == p) = true := by simpa using hr
  obtain ⟨r, hm, h2⟩ := List.any_eq_true.1 this
  simp only [Bool.and_eq_true, beq_iff_eq] at h2
  obtain ⟨rfl, rfl⟩ := h2
  have := List.all_eq_true.1 h r hm
  simpa using this

/-- A drawn region that reads and stores, in the order of the text. -/
structure RunG (P : Program) (N : Nat) (c : Cx) (L : List Oper) (st : Sts) (rd : List (Nat × Nat)) (l : List Oper) (k : Nat) (Q : Exit -> Act -> World -> Prop) (env : List (Nat × Value)) (mem : List (Nat × Obj)) : Prop where
 run : ∀ a, SatA N c.ds env a -> (rd.all fun r => !wrB (ancs .any L.toArray) st r.1 r.2) = true ->
  gSeq P L.toArray c.C st (wrB (ancs .any L.toArray) st) (fun a' m' => ∀ W, SatW c.w0 c.D c.J m' W -> Q .normal a' W) l k a mem

def wrB0 (an : List Nat) (st : List (Nat × Nat)) (i p : Nat) : Bool := st.any fun s => s.2 == p && s.1 != i && !waitsB an s.1 i && !waitsB an i s.1
def gB0 (L : List Oper) (st : List (Nat × Nat)) (rd : List (Nat × Nat)) : Bool := Region.lexB .any L.toArray && rd.all fun r => !wrB0 (ancs .any L.toArray) st r.1 r.2
theorem wrB_0 (an : List Nat) (st : Sts) (i p : Nat) : wrB0 an (st.map fun s => (s.1, s.2.1)) i p = wrB an st i p := by
 unfold wrB0 wrB; rw [List.any_map]; rfl

def clear1 (s : Nat × Nat × Nat × Nat) : Sts -> Prop
 | [] => True
 | t :: l => (s.2.1 ≠ t.2.1 ∨ s.2.2.1 + s.2.2.2 <= t.2.2.1 ∨ t.2.2.1 + t.2.2.2 <= s.2.2.1) /\ clear1 s l
def clears : Sts -> Prop
 | [] => True
 | s :: l => clear1 s l /\ clears l
theorem clear1_mem {s t : Nat × Nat × Nat × Nat} {l : Sts} (h : clear1 s l) (ht : t ∈ l) : s.2.1 ≠ t.2.1 ∨ s.2.2.1 + s.2.2.2 <= t.2.2.1 ∨ t.2.2.1 + t.2.2.2 <= s.2.2.1 := by
 induction l with
 | nil => cases ht
 | cons x l ih =>
  rcases List.mem_cons.1 ht with rfl | ht
  ·exact h.1
  ·exact ih h.2 ht
theorem clears_apart {l : Sts} (h : clears l) : Apart l := by
 induction l with
 | nil => intro s hs; cases hs
 | cons x l ih =>
  intro s hs t ht hne
  rcases List.mem_cons.1 hs with es | hs'
  ·rcases List.mem_cons.1 ht with et | ht'
   ·exact absurd (by rw [es, et]) hne
   ·rw [es]; exact clear1_mem h.1 ht'
  ·rcases List.mem_cons.1 ht with et | ht'
   ·have := clear1_mem h.1 hs'
    rw [et]; omega
   ·exact ih h.2 s hs' t ht' hne

theorem c_gen [M : Mixed P] {id : Nat} (st0 : List (Nat × Nat)) (st : Sts) (rd : List (Nat × Nat)) (hst : (st.map fun s => (s.1, s.2.1)) = st0) (hB : gB0 L st0 rd = true) (hA : clears st) (k : RunG P N c L st rd L 0 Q env mem) : RunC P N c (.region id L.toArray true) Q env mem := .mk fun a W ha hm => by
 subst hst
 simp only [gB0, wrB_0, Region.lexB, Bool.and_eq_true] at hB
 obtain ⟨⟨h1, h2⟩, h3⟩ := hB
 refine wpIn_region_any M.ok ?_
 have H := gAny_lex (P := P) (C := c.C) (st := st) (Lq := fun a' m' => ∀ W, SatW c.w0 c.D c.J m' W -> Q .normal a' W) h1 (clears_apart hA) L 0 (Array.replicate L.toArray.size false) a mem
  (fun j oj _ hl => by rw [getD_replicate_false] at hl; cases hl) (by simp) (by simpa using h2) (k.run a ha h3)
 have := wpAnyIn_of_gAny (c := c) (Q := Q) (fun a m W h hm => h W hm) _ _ _ _ _ hm.drew H
 simpa using this

/-- the places that may be read -/
def pickK {α β : Type} (f : Nat -> Bool) : Nat -> Nat -> List α -> (List α -> Option β) -> Option β
 | 0, _, m, k => k m
 | _ + 1, _, [], k => k []
 | n + 1, j, x :: m, k => bif f j then pickK f n (j + 1) m k else pickK f n (j + 1) m fun r => k (x :: r)
theorem keepM_all {α : Type} {f : Nat -> Bool} {m : List α} {j : Nat} (h : ∀ p, j <= p -> f p = false) : keepM f j m = m := by
 induction m generalizing j with
 | nil => rfl
 | cons x m ih => simp only [keepM, h j (Nat.le_refl _), cond_false]; rw [ih fun p hp => h p (by omega)]
theorem pickK_eq {α β : Type} {f g : Nat -> Bool} {m : List α} {n j : Nat} {k : List α -> Option β} {r : β} (hf : ∀ p, g p = false -> f p = false) (hn : ∀ p, j + n <= p -> f p = false) (h : pickK g n j m k = some r) : ∃ m', List.Sublist m' (keepM f j m) /\ k m' = some r := by
 induction n generalizing m j k with
 | zero => exact ⟨m, by rw [keepM_all (fun p hp => hn p (by omega))]; exact List.Sublist.refl _, h⟩
 | succ n ih =>
  cases m with
  | nil => exact ⟨[], List.nil_sublist _, h⟩
  | cons x m =>
   simp only [pickK] at h
   cases hg : g j with
   | true =>
    rw [hg] at h
    obtain ⟨m', h1, h2⟩ := ih (fun p hp => hn p (by omega)) h
    refine ⟨m', ?_, h2⟩
    simp only [keepM]
    cases f j with
    | true => exact h1
    | false => exact h1.cons _
   | false =>
    rw [hg] at h
    obtain ⟨m', h1, h2⟩ := ih (fun p hp => hn p (by omega)) h
    refine ⟨x :: m', ?_, h2⟩
    simp only [keepM, hf j hg, cond_false]
    exact h1.cons_cons _

def fuelOf : Sts -> Nat
 | [] => 0
 | s :: l => max (s.2.1 + 1) (fuelOf l)
theorem fuelOf_le {st : Sts} {s : Nat × Nat × Nat × Nat} (h : s ∈ st) : s.2.1 < fuelOf st := by
 induction st with
 | nil => cases h
 | cons x st ih =>
  simp only [fuelOf]
  rcases List.mem_cons.1 h with rfl | h
  ·omega
  ·have := ih h; omega
theorem wrB_far {an : List Nat} {st : Sts} {i p : Nat} (h : fuelOf st <= p) : wrB an st i p = false := by
 cases hw : wrB an st i p with
 | false => rfl
 | true =>
  unfold wrB at hw
  obtain ⟨s, hs, h2⟩ := List.any_eq_true.1 hw
  simp only [Bool.and_eq_true, beq_iff_eq] at h2
  have := fuelOf_le hs
  omega

variable {rd : List (Nat × Nat)}
theorem g_val {k : Nat} {op : Op} {v : Value} {mem' : List (Nat × Obj)} (hw : wantB L env g = some true) (hd : Nat.blt d N = true) (hm : pickK (rowB st rd k) (fuelOf st) 0 mem some = some mem')
  (hv : OpVal P N c env mem' ⟨some d, op, ty, pos, af, g⟩ v) (kk : RunG P N c L st rd l (k + 1) Q ((d, v) :: env) mem) : RunG P N c L st rd (⟨some d, op, ty, pos, af, g⟩ :: l) k Q env mem := .mk fun a ha hr => by
 refine ⟨v, mem, .val (wanted_of (o := ⟨some d, op, ty, pos, af, g⟩) hw ha) hv.1 (fun W hW => ?_), kk.run _ (ha.put hd v) hr⟩
 obtain ⟨m', h1, h2⟩ := pickK_eq (f := wrB (ancs .any L.toArray) st k) (fun p hp => rowB_ok hr hp) (fun p hp => wrB_far (by omega)) hm
 simp only [Option.some.injEq] at h2
 subst h2
 exact hv.2 a W ha (hW.mono h1)

/-- a store; `p`: the place of the block, `cs2`: its cells behind it -/
theorem g_store [T : TT P tt] {k t b o sz bt p f len : Nat} {x y : Operand} {kd : TK} {z v : Value} {cs cs2 vs : List Value} {T' : TypeId} {mem' : List (Nat × Obj)} (hw : wantB L env g = some true)
  (hx : evOp env x = some (.pointer (some ⟨b, o, none⟩))) (hy : evOp env y = some v) (hvs : cellsL v = vs) (ht : look tt t = some ⟨kd, sz, bt, z⟩) (hs : Nat.beq vs.length sz = true) (h1 : allOne vs = true)
  (hp : posOf st k = some (p, f, len)) (ho : o = f) (hl : Nat.beq vs.length len = true) (hmem : mem[p]? = some (b, .cells ⟨cs⟩ T' (0, 0))) (hle : o + len <= cs.length) (hc : splice cs o vs = cs2) (hm : mem.set p (b, .cells ⟨cs2⟩ T' (0, 0)) = mem')
  (kk : RunG P N c L st rd l (k + 1) Q env mem') : RunG P N c L st rd (⟨none, .store t x y, ty, pos, af, g⟩ :: l) k Q env mem := .mk fun a ha hr => by
 subst hvs; subst hc; subst hm; subst ho
 have hl := Nat.eq_of_beq_eq_true hl
 subst hl
 obtain ⟨i, hi, hsz⟩ := (TT.look (P := P) ht).size
 refine ⟨undef, _, .sto (wanted_of (o := ⟨none, .store t x y, ty, pos, af, g⟩) hw ha) rfl hp hmem hle (fun W cs' hlen hb => ?_), kk.run _ ha hr⟩
 exact p_store (ha.eval hx) (ha.eval hy) hi (by rw [hsz]; exact Nat.eq_of_beq_eq_true hs) (allOne_mem h1) hb (by rw [hlen]; exact hle)

theorem g_nil {k : Nat} (kk : RunX N c Q .normal env mem) : RunG P N c L st rd [] k Q env mem := .mk fun a ha _ W hm => kk.run a W ha hm

theorem splice_one {cs : List Value} {o : Nat} {v : Value} {cs2 : List Value} (h : o < cs.length) (e : cs.set o v = cs2) : splice cs o [v] = cs2 := by
 rw [<- e]; exact set_eq_splice h
theorem splice_lit {cs vs cs2 : List Value} {o : Nat} (h : putK cs o vs some = some cs2) : splice cs o vs = cs2 := by
 have := (putK_eq h).2
 simpa [splice] using this
end
end Kin
end Go

namespace Go
open Go.RowKit
namespace Kin

theorem cutK_of {β : Type} {l : List Value} {o n : Nat} {k : List Value -> Option β} (h : o + n <= l.length) : cutK l o n k = k ((l.drop o).take n) := by
 induction l generalizing o n k with
 | nil =>
  simp only [List.length_nil] at h
  obtain rfl : o = 0 := by omega
  obtain rfl : n = 0 := by omega
  rfl
 | cons x l ih =>
  cases o with
  | zero =>
   cases n with
   | zero => rfl
   | succ n =>
    simp only [cutK]
    rw [ih (by simp only [List.length_cons] at h; omega)]
    rfl
  | succ o =>
   simp only [cutK]
   rw [ih (by simp only [List.length_cons] at h; omega)]
   rfl

/-- `cs` has the row `r` at `o`. -/
structure RowAt (cs : List Value) (o : Nat) (r : List Value) : Prop where
 fits : o + r.length <= cs.length
 eq : (cs.drop o).take r.length = r

theorem RowAt.agg {cs : List Value} {o sz : Nat} {r : List Value} (h : RowAt cs o r) (hs : r.length = sz) : aggV true sz cs o = some (.agg ⟨r⟩) := by
 subst hs
 show cutK cs o r.length (fun r => some (Value.agg ⟨r⟩)) = _
 rw [cutK_of h.fits, h.eq]
theorem RowAt.get {cs : List Value} {o f : Nat} {r : List Value} {v : Value} (h : RowAt cs o r) (hv : r[f]? = some v) : cs[o + f]? = some v := by
 have hf := (List.getElem?_eq_some_iff.1 hv).1
 have h1 : ((cs.drop o).take r.length)[f]? = some v := by rw [h.eq]; exact hv
 rw [List.getElem?_take, if_pos hf, List.getElem?_drop] at h1
 exact h1

theorem rowAt_flatten {rs : List (List Value)} {rest : List Value} {sz i : Nat} {r : List Value} (h : ∀ r ∈ rs, r.length = sz) (hi : rs[i]? = some r) : RowAt (rs.flatten ++ rest) (i * sz) r := by
 induction rs generalizing i with
 | nil => cases hi
 | cons x rs ih =>
  have hx := h x List.mem_cons_self
  cases i with
  | zero =>
   cases hi
   refine ⟨?_, ?_⟩
   ·simp only [List.flatten_cons, List.length_append]; omega
   ·simp only [Nat.zero_mul, List.drop_zero, List.flatten_cons, List.append_assoc, List.take_left']
  | succ i =>
   have ih := ih (fun r hr => h r (List.mem_cons_of_mem _ hr)) hi
   rw [List.flatten_cons, List.append_assoc, Nat.succ_mul, Nat.add_comm (i * sz) sz, <- hx]
   rw [hx]
   refine ⟨?_, ?_⟩
   ·have := ih.fits; rw [List.length_append, hx]; omega
   ·rw [<- hx, <- List.drop_drop, List.drop_left, hx]; exact ih.eq

theorem splice_flatten {rs : List (List Value)} {rest : List Value} {sz i : Nat} {r : List Value} (h : ∀ r ∈ rs, r.length = sz) (hi : i < rs.length) (hr : r.length = sz) : splice (rs.flatten ++ rest) (i * sz) r = (rs.set i r).flatten ++ rest := by
 induction rs generalizing i with
 | nil => cases hi
 | cons x rs ih =>
  have hx := h x List.mem_cons_self
  cases i with
  | zero =>
   simp only [splice, Nat.zero_mul, List.take_zero, List.nil_append, Nat.zero_add, List.set_cons_zero, List.flatten_cons, List.append_assoc]
   rw [hr, <- hx, List.drop_left]
  | succ i =>
   have ih := ih (fun r hr => h r (List.mem_cons_of_mem _ hr)) (by simpa using hi)
   simp only [splice] at ih ⊢
   rw [List.flatten_cons, Nat.succ_mul, Nat.add_comm (i * sz) sz, List.set_cons_succ, List.flatten_cons, List.append_assoc x (rs.set i r).flatten, <- ih, List.append_assoc x rs.flatten]
   have e1 : (x ++ (rs.flatten ++ rest)).take (sz + i * sz) = x ++ (rs.flatten ++ rest).take (i * sz) := by rw [<- hx, List.take_length_add_append]
   have e2 : (x ++ (rs.flatten ++ rest)).drop (sz + i * sz + r.length) = (rs.flatten ++ rest).drop (i * sz + r.length) := by
    rw [Nat.add_assoc, <- hx, List.drop_length_add_append]
   rw [e1, e2]
   simp only [List.append_assoc]

section
variable {P : Program} {N : Nat} {c : Cx} {env : List (Nat × Value)} {mem : List (Nat × Obj)} {tt : List (TypeId × TI)} {ty : TypeId} {pos : String} {af : Array Edge} {g : Option (Nat × Bool)} {dd : Option Tmp} [Wide c.F]
/-- a record out of a row of them -/
theorem v_load_row [T : TT P tt] {t b o sz bt : Nat} {x : Operand} {kd : TK} {z : Value} {cs r : List Value} {T' : TypeId} {fr : Nat × Nat}
  (hx : evOp env x = some (.pointer (some ⟨b, o, none⟩))) (hm : (b, Obj.cells ⟨cs⟩ T' fr) ∈ mem) (ht : look tt t = some ⟨kd, sz, bt, z⟩) (hk : kd.isAgg = true) (hr : RowAt cs o r) (hs : Nat.beq r.length sz = true) :
  OpVal P N c env mem ⟨dd, .load t x, ty, pos, af, g⟩ (.agg ⟨r⟩) :=
 vLd hx hm ht (by rw [hk]; exact hr.agg (Nat.eq_of_beq_eq_true hs))
end

/-! ## Where ways meet, in one of many states -/
structure MidI (N : Nat) (c : Cx) {ι : Type} (I : ι -> Prop) (E : ι -> List (Nat × Value)) (M : ι -> List (Nat × Obj)) (a : Act) (W : World) : Prop where
 ex : ∃ i, I i /\ SatA N c.ds (E i) a /\ SatW c.w0 c.D c.J (M i) W
section
variable {P : Program} {N : Nat} {c : Cx} {Q : Exit -> Act -> World -> Prop} {env : List (Nat × Value)} {mem : List (Nat × Obj)} {ι : Type}
theorem c_joinI {x y : Code} (I : ι -> Prop) (E : ι -> List (Nat × Value)) (M : ι -> List (Nat × Obj)) (k1 : RunC P N c x (Exit.then (MidI N c I E M) Q) env mem) (k2 : ∀ i, I i -> RunC P N c y Q (E i) (M i)) : RunC P N c (.seq x y) Q env mem :=
 .mk fun a W ha hm => wpIn_seq (wpIn_mono (k1.run a W ha hm) fun e a' W' h => by
  cases e with
  | normal =>
   obtain ⟨i, h1, h2, h3⟩ := h.ex
   exact (k2 i h1).run a' W' h2 h3
  | _ => exact h)
theorem x_midI {I : ι -> Prop} {E : ι -> List (Nat × Value)} {M : ι -> List (Nat × Obj)} {Q' : Exit -> Act -> World -> Prop} (i : ι) (hI : I i) (hE : EnvSub env (E i)) (hM : MSub mem (M i)) : RunX N c (Exit.then (MidI N c I E M) Q') .normal env mem :=
 .mk fun _ _ ha hm => ⟨i, hI, hE.sat ha, hm.mono hM.sub⟩
end
end Kin
end Go
