/- Arguments opened: what the reading of a type says of its cells. Generic: no program is named here. -/
import Derived.Test.YtajnkdgbpffinaaGreatEng8
import Derived.Deep.Slices
import Derived.Deep.Fields
import Derived.Lib.SmallJoins
import Derived.ChangeSame
set_option linter.unusedSectionVars false
set_option linter.unusedVariables false
set_option linter.unusedSimpArgs false
namespace Go
open Go.RowKit Go.ChangeShapes Go.WideShapes
namespace Kin
section
variable {H : Type} {enc : TypeId × Value -> H} {P : Program} {w : World}

/-- whatever reads as a datum of the type has cells of this kind -/
def Reads (enc : TypeId × Value -> H) (P : Program) (w : World) (t : TypeId) (R : List Value -> Prop) : Prop :=
 ∀ fuel cs x, DataW.trod enc P w 0 (fun _ => true) true fuel t cs = some x -> R cs

theorem Reads.mono {t : TypeId} {R S : List Value -> Prop} (h : Reads enc P w t R) (k : ∀ cs, R cs -> S cs) : Reads enc P w t S := fun f cs x hx => k cs (h f cs x hx)
theorem rd_int {t : TypeId} {k : IntKind} (ht : P.underlying t = some (.int k)) : Reads enc P w t fun cs => ∃ n, cs = [.int k n] /\ (Lit.int k n).wf = true := fun f cs x hx => by
 obtain ⟨n, h1, _, h2⟩ := DataW.trod_int ht hx
 exact ⟨n, h1, h2⟩
/-- a record: its cells, and each field's own -/
theorem rd_struct {t : TypeId} {fs : Array Field} {R : Nat -> List Value -> Prop} {n : Nat} (ht : P.underlying t = some (.struct fs)) (hn : P.cellsOf t = n) (hR : ∀ i f, fs[i]? = some f -> Reads enc P w f.type (R i)) :
  Reads enc P w t fun cs => cs.length = n /\ ∀ i f, fs[i]? = some f -> R i ((cs.drop f.offset).take (P.cellsOf f.type)) := fun fu cs x hx => by
 obtain ⟨xs, m, _, _, hl, hxl, h⟩ := DataW.trod_struct ht hx
 refine ⟨hl.trans hn, fun i f hi => ?_⟩
 have h1 := h i f hi
 have hlt : i < xs.length := by rw [hxl]; exact (Array.getElem?_eq_some_iff.1 hi).1
 rw [List.getElem?_eq_getElem hlt] at h1
 exact hR i f hi _ _ _ h1

/-- .. where each field is one cell -/
theorem rd_struct1 {t : TypeId} {fs : Array Field} {R : Nat -> List Value -> Prop} {n : Nat} (ht : P.underlying t = some (.struct fs)) (hone : Deep.oneCellFields P fs = true) (hn : P.cellsOf t = n) (hR : ∀ i f, fs[i]? = some f -> Reads enc P w f.type (R i)) :
  Reads enc P w t fun cs => cs.length = n /\ ∀ i f c, fs[i]? = some f -> cs[i]? = some c -> R i [c] := (rd_struct ht hn hR).mono fun cs ⟨h1, h2⟩ => ⟨h1, fun i f c hf hc => by
 have := h2 i f hf
 obtain ⟨o, k⟩ := Deep.hone_of hone i f hf
 rw [o, k] at this
 have hlt := (List.getElem?_eq_some_iff.1 hc).1
 rw [List.drop_eq_getElem_cons hlt, show cs[i] = c from (List.getElem?_eq_some_iff.1 hc).2] at this
 simpa using this⟩

/-- the rows of a slice -/
theorem rd_slice {t e : TypeId} {R : List Value -> Prop} {sz : Nat} (ht : P.underlying t = some (.slice e)) (hsz : P.cellsOf e = sz) (h0 : 0 < sz) (hR : Reads enc P w e R) :
  Reads enc P w t fun cs => ∃ A rows cap, cs = [.slice A (List.length rows) cap] /\ At w A sz rows /\ (∀ r ∈ rows, R r /\ r.length = sz) /\ rows.length <= cap /\ cap <= maxLen := fun fu cs x hx => by
 rcases Deep.open_slice ht hx with ⟨h1, _⟩ | ⟨a, len, cap, m, n, D, Pl, h1, _, hle, hmx, hm, _, hi⟩
 ·exact ⟨none, [], 0, h1, fun i r hr => by simp at hr, fun r hr => by simp at hr, Nat.le_refl _, Nat.zero_le _⟩
 ·simp only [if_true] at hm
  subst hm
  rw [hsz] at hi
  obtain ⟨V, hV⟩ := Deep.choose_lt (α := List Value) (p := fun i r => R r /\ r.length = sz /\ ∀ j, j < sz -> w.cell? ((a.add (i * sz)).add j) = r[j]?) (n := len) (fun i hil => by
   obtain ⟨cs', hc, ht'⟩ := hi i (by omega)
   obtain ⟨_, hl, hat⟩ := World.cells?_some hc
   exact ⟨cs', hR _ _ _ ht', hl, hat⟩)
  refine ⟨some a, (List.range len).map V, m, by rw [h1]; simp, ?_, ?_, by simpa using hle, hmx⟩
  ·intro i r hr
   have hil : i < len := by
    have := (List.getElem?_eq_some_iff.1 hr).1
    simpa using this
   have hr2 : V i = r := by
    rw [List.getElem?_map, List.getElem?_range hil] at hr
    simpa using hr
   have hsp : a.spot = none := by
    obtain ⟨_, hl, hat⟩ := hV 0 (by omega)
    have h3 := hat 0 h0
    rw [Nat.zero_mul] at h3
    have e0 : (a.add 0).add 0 = a := by simp [Addr.add]
    rw [e0, List.getElem?_eq_getElem (by omega)] at h3
    unfold World.cell? at h3
    split at h3
    ·split at h3
     ·cases h3
     ·rename_i hs; simpa using hs
    ·cases h3
   obtain ⟨b, o, s⟩ := a
   simp only at hsp
   subst hsp
   refine ⟨b, o, rfl, fun j v hj => ?_⟩
   obtain ⟨_, hl, hat⟩ := hV i hil
   rw [hr2] at hl hat
   have hjl : j < sz := by
    have := (List.getElem?_eq_some_iff.1 hj).1
    omega
   have h4 := hat j hjl
   rw [hj, Deep.add_add] at h4
   rw [<- h4]
   congr 1
   unfold Addr.add
   split
   ·rename_i e; simp only [Addr.mk.injEq, and_true, true_and]; omega
   ·simp only [Addr.mk.injEq, and_true, true_and]; omega
  ·intro r hr
   obtain ⟨i, hi2, rfl⟩ := List.mem_map.1 hr
   obtain ⟨h3, h4, _⟩ := hV i (List.mem_range.1 hi2)
   exact ⟨h3, h4⟩

theorem rows_map {α : Type} {e : α -> List Value} {Q : α -> Prop} : ∀ {rows : List (List Value)}, (∀ r ∈ rows, ∃ x, r = e x /\ Q x) -> ∃ l : List α, rows = l.map e /\ ∀ x ∈ l, Q x
 | [], _ => ⟨[], rfl, fun _ h => by cases h⟩
 | r :: rows, h => by
  obtain ⟨x, rfl, hx⟩ := h r List.mem_cons_self
  obtain ⟨l, rfl, hl⟩ := rows_map fun r hr => h r (List.mem_cons_of_mem _ hr)
  exact ⟨x :: l, rfl, fun y hy => by
   rcases List.mem_cons.1 hy with rfl | hy
   ·exact hx
   ·exact hl y hy⟩

/-- a slice whose elements are of the kind `e x` -/
theorem rd_list {α : Type} {t el : TypeId} {e : α -> List Value} {Q : α -> Prop} {sz : Nat} (ht : P.underlying t = some (.slice el)) (hsz : P.cellsOf el = sz) (h0 : 0 < sz) (hR : Reads enc P w el fun cs => ∃ x, cs = e x /\ Q x) :
  Reads enc P w t fun cs => ∃ A cap, ∃ l : List α, cs = [.slice A l.length cap] /\ At w A sz (l.map e) /\ (∀ x ∈ l, Q x) /\ l.length <= cap /\ cap <= maxLen := (rd_slice ht hsz h0 hR).mono fun cs ⟨A, rows, cap, h1, h2, h3, h4, h5⟩ => by
 obtain ⟨l, rfl, hl⟩ := rows_map (e := e) (Q := Q) fun r hr => (h3 r hr).1
 rw [List.length_map] at h1 h4
 exact ⟨A, cap, l, h1, h2, hl, h4, h5⟩

/-- an argument's cells -/
theorem rd_arg {t : TypeId} {R : List Value -> Prop} {v : Value} {d : DataW H} {p : List MemPlace} (hR : Reads enc P w t R) (h : DataW.Trod enc P w 0 (fun _ => true) true t v d p) : R v.cells.toList := by
 obtain ⟨f, hf⟩ := h
 exact hR f _ _ hf
theorem slice_arg {t e : TypeId} {r : Reach} {b : Nat} {v : Value} (ht : P.underlying t = some (.slice e)) (hv : Value.okWide P w r b t v) : v.cells.toList = [v] := by
 obtain ⟨a, len, cap, rfl⟩ := okWide_slice ht hv; rfl
end
end Kin
end Go

namespace Go
open Go.RowKit
namespace Kin

/-! ## Rows of cells, written in part -/
def splice (cs : List Value) (f : Nat) (vs : List Value) : List Value := cs.take f ++ vs ++ cs.drop (f + vs.length)
/-! ## Blocks that are left out -/
def keepM {α : Type} (f : Nat -> Bool) : Nat -> List α -> List α
 | _, [] => []
 | k, x :: m => bif f k then keepM f (k + 1) m else x :: keepM f (k + 1) m
/-! ## What each operation waits for -/
def ancF (md : Region.Mode) (acc : List Nat) (o : Oper) : Nat := o.after.toList.foldl (fun m e => bif Region.binds md e then m ||| (2 ^ e.on) ||| acc.getD e.on 0 else m) 0
def ancL (md : Region.Mode) : List Oper -> List Nat -> List Nat
 | [], acc => acc
 | o :: l, acc => ancL md l (acc ++ [ancF md acc o])
def ancs (md : Region.Mode) (ops : Array Oper) : List Nat := ancL md ops.toList []

/-- what is listed waits for nothing that is not -/
def ClosedL (md : Region.Mode) (ops : Array Oper) (listed : Array Bool) : Prop :=
 ∀ j oj, ops[j]? = some oj -> listed.getD j false = true -> ∀ e ∈ oj.after, Region.binds md e = true -> listed.getD e.on false = true

def AncOk (md : Region.Mode) (ops : Array Oper) (acc : List Nat) : Prop :=
 ∀ (k m : Nat), acc[k]? = some m -> ∀ listed, ClosedL md ops listed -> (∀ o : Oper, ops[k]? = some o -> ∀ e ∈ o.after, Region.binds md e = true -> listed.getD e.on false = true) -> ∀ i, m.testBit i = true -> listed.getD i false = true

theorem ancF_ok {md : Region.Mode} {ops : Array Oper} {acc : List Nat} (h : AncOk md ops acc) {o : Oper} {listed : Array Bool} (hc : ClosedL md ops listed)
  (hd : ∀ e ∈ o.after, Region.binds md e = true -> listed.getD e.on false = true) {i : Nat} (hi : (ancF md acc o).testBit i = true) : listed.getD i false = true := by
 have : ∀ (es : List Edge) (m : Nat), (∀ e ∈ es, e ∈ o.after) -> (m.testBit i = true -> listed.getD i false = true) ->
   (es.foldl (fun m e => bif Region.binds md e then m ||| (2 ^ e.on) ||| acc.getD e.on 0 else m) m).testBit i = true -> listed.getD i false = true := by
  intro es
  induction es with
  | nil => intro m _ h1 h2; exact h1 h2
  | cons e es ih =>
   intro m hin h1 h2
   refine ih _ (fun e he => hin e (List.mem_cons_of_mem _ he)) ?_ h2
   intro h3
   replace h3 : (bif Region.binds md e then m ||| (2 ^ e.on) ||| acc.getD e.on 0 else m).testBit i = true := h3
   cases hb : Region.binds md e with
   | false => rw [hb] at h3; exact h1 h3
   | true =>
    rw [hb] at h3
    have hon := hd e (hin e List.mem_cons_self) hb
    simp only [cond_true, Nat.testBit_or, Bool.or_eq_true] at h3
    rcases h3 with (h3 | h3) | h3
    ·exact h1 h3
    ·rw [Nat.testBit_two_pow] at h3
     have : e.on = i := by simpa using h3
     rw [<- this]; exact hon
    ·rw [List.getD_eq_getElem?_getD] at h3
     cases hk : acc[e.on]? with
     | none => rw [hk] at h3; simp at h3
     | some mk =>
      rw [hk] at h3
      exact h e.on mk hk listed hc (fun o' ho' e' he' hb' => hc e.on o' ho' hon e' he' hb') i h3
 exact this o.after.toList 0 (fun e he => by simpa using he) (fun h => by simp at h) hi

theorem ancL_ok {md : Region.Mode} {ops : Array Oper} : ∀ (l : List Oper) (acc : List Nat), (∀ j, l[j]? = ops[acc.length + j]?) -> AncOk md ops acc -> AncOk md ops (ancL md l acc)
 | [], _, _, h => h
 | o :: l, acc, hl, h => by
  refine ancL_ok l (acc ++ [ancF md acc o]) (fun j => by have := hl (j + 1); simpa [Nat.add_assoc, Nat.add_comm 1 j] using this) ?_
  intro k m hk listed hc hd i hi
  by_cases hlt : k < acc.length
  ·rw [List.getElem?_append_left hlt] at hk
   exact h k m hk listed hc hd i hi
  ·rw [List.getElem?_append_right (by omega)] at hk
   have hka : k = acc.length := by
    have := (List.getElem?_eq_some_iff.1 hk).1
    simp only [List.length_singleton] at this; omega
   subst hka
   simp only [Nat.sub_self, List.getElem?_cons_zero, Option.some.injEq] at hk
   subst hk
   have h0 := hl 0
   simp only [List.getElem?_cons_zero, Nat.add_zero] at h0
   exact ancF_ok h hc (hd o h0.symm) hi

theorem ancs_ok {md : Region.Mode} {ops : Array Oper} : AncOk md ops (ancs md ops) := ancL_ok ops.toList [] (by simp) (fun k m hk => by cases hk)

def waitsB (an : List Nat) (j i : Nat) : Bool := (an.getD j 0).testBit i

/-- Of two that are both ready, neither waits for the other. -/
theorem ready_free {md : Region.Mode} {ops : Array Oper} {listed : Array Bool} (hc : ClosedL md ops listed) {i j : Nat} (hi : i ∈ Region.ready md ops listed) (hj : j ∈ Region.ready md ops listed) : waitsB (ancs md ops) j i = false := by
 obtain ⟨hiu, _⟩ := mem_ready.1 hi
 obtain ⟨_, oj, hoj, hall⟩ := mem_ready.1 hj
 cases hw : waitsB (ancs md ops) j i with
 | false => rfl
 | true =>
  unfold waitsB at hw
  rw [List.getD_eq_getElem?_getD] at hw
  cases hk : (ancs md ops)[j]? with
  | none => rw [hk] at hw; simp at hw
  | some m =>
   rw [hk] at hw
   have h1 := ancs_ok j m hk listed hc (fun o ho e he hb => by rw [hoj] at ho; cases ho; exact hall e he hb) i hw
   rw [getD_both hiu] at h1
   cases h1

theorem ClosedL.set {md : Region.Mode} {ops : Array Oper} {listed : Array Bool} (h : ClosedL md ops listed) {i : Nat} (hi : i ∈ Region.ready md ops listed) : ClosedL md ops (listed.setIfInBounds i true) := by
 obtain ⟨_, oi, hoi, hall⟩ := mem_ready.1 hi
 intro j oj hj hl e he hb
 by_cases hij : i = j
 ·subst hij
  have : oj = oi := Option.some.inj (hj.symm.trans hoi)
  subst this
  exact getD_set_true (hall e he hb)
 ·rw [getD_set_ne false hij] at hl
  exact getD_set_true (h j oj hj hl e he hb)

/-! ## The walk of operations on a list of blocks -/
abbrev Mem := List (Nat × Obj)
/-- the stores: number, place in the list of blocks, first cell, how many -/
abbrev Sts := List (Nat × Nat × Nat × Nat)
def posOf (st : Sts) (i : Nat) : Option (Nat × Nat × Nat) := (st.find? (fun s => s.1 == i)).map (·.2)
section
variable {P : Program} {ops : Array Oper} {C : Mem -> World -> Prop} {st : Sts} {wr : Nat -> Nat -> Bool} {Lq : Act -> Mem -> Prop}

inductive Eff (P : Program) (ops : Array Oper) (C : Mem -> World -> Prop) (st : Sts) (wr : Nat -> Nat -> Bool) (o : Oper) (i : Nat) (a : Act) (m : Mem) : Value -> Mem -> Prop
 | val {v : Value} (hw : Region.wanted o (yielded ops a.tmps) = true) (hp : plainOp o.op = true) (h : ∀ W, C (keepM (wr i) 0 m) W -> (execOp a.eval o).run P W = .ok (.value v) W) : Eff P ops C st wr o i a m v m
 | sto {p f b : Nat} {cs vs : List Value} {T : TypeId} (hw : Region.wanted o (yielded ops a.tmps) = true) (hp : plainOp o.op = true) (h1 : posOf st i = some (p, f, vs.length)) (h2 : m[p]? = some (b, .cells ⟨cs⟩ T (0, 0))) (h3 : f + vs.length <= cs.length)
   (h : ∀ (W : World) (cs' : List Value), cs'.length = cs.length -> W.heap[b]? = some (.cells ⟨cs'⟩ T (0, 0)) -> (execOp a.eval o).run P W = .ok .skip (W.setRow b (splice cs' f vs).toArray)) :
   Eff P ops C st wr o i a m undef (m.set p (b, .cells ⟨splice cs f vs⟩ T (0, 0)))
 | skip (hw : Region.wanted o (yielded ops a.tmps) = false) : Eff P ops C st wr o i a m undef m

end

section
variable {P : Program} {N : Nat} {c : Cx} {Q : Exit -> Act -> World -> Prop} {env : List (Nat × Value)} {mem : List (Nat × Obj)} {L l : List Oper} [Wide c.F]
 {tt : List (TypeId × TI)} {d : Nat} {ty : TypeId} {pos : String} {af : Array Edge} {g : Option (Nat × Bool)} {st : Sts} {wr : Nat -> Nat -> Bool}

variable {rd : List (Nat × Nat)}
end
end Kin
end Go

namespace Go
open Go.RowKit
namespace Kin

/-- `cs` has the row `r` at `o`. -/
structure RowAt (cs : List Value) (o : Nat) (r : List Value) : Prop where
 fits : o + r.length <= cs.length
 eq : (cs.drop o).take r.length = r

theorem RowAt.get {cs : List Value} {o f : Nat} {r : List Value} {v : Value} (h : RowAt cs o r) (hv : r[f]? = some v) : cs[o + f]? = some v := by
 have hf := (List.getElem?_eq_some_iff.1 hv).1
 have h1 : ((cs.drop o).take r.length)[f]? = some v := by rw [h.eq]; exact hv
 rw [List.getElem?_take, if_pos hf, List.getElem?_drop] at h1
 exact h1

theorem rowAt_flatten {rs : List (List Value)} {rest : List Value} {sz i : Nat} {r : List Value} (h : ∀ r ∈ rs, r.length = sz) (hi : rs[i]? = some r) : RowAt (rs.flatten ++ rest) (i * sz) r := by
 induction rs generalizing i with
 | nil => cases hi
 | cons x rs ih =>
  have hx := h x List.mem_cons_self
  cases i with
  | zero =>
   cases hi
   refine ⟨?_, ?_⟩
   ·simp only [List.flatten_cons, List.length_append]; omega
   ·simp only [Nat.zero_mul, List.drop_zero, List.flatten_cons, List.append_assoc, List.take_left']
  | succ i =>
   have ih := ih (fun r hr => h r (List.mem_cons_of_mem _ hr)) hi
   rw [List.flatten_cons, List.append_assoc, Nat.succ_mul, Nat.add_comm (i * sz) sz, <- hx]
   rw [hx]
   refine ⟨?_, ?_⟩
   ·have := ih.fits; rw [List.length_append, hx]; omega
   ·rw [<- hx, <- List.drop_drop, List.drop_left, hx]; exact ih.eq

section
variable {P : Program} {N : Nat} {c : Cx} {env : List (Nat × Value)} {mem : List (Nat × Obj)} {tt : List (TypeId × TI)} {ty : TypeId} {pos : String} {af : Array Edge} {g : Option (Nat × Bool)} {dd : Option Tmp} [Wide c.F]
end

/-! ## Where ways meet, in one of many states -/
section
variable {P : Program} {N : Nat} {c : Cx} {Q : Exit -> Act -> World -> Prop} {env : List (Nat × Value)} {mem : List (Nat × Obj)} {ι : Type}
end
end Kin
end Go
