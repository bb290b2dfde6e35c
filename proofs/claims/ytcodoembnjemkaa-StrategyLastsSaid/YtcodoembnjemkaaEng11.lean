/- The engine: rows of records. Generic: no program is named here. -/
import Derived.Test.YtcodoembnjemkaaEng9
import Derived.Laws.StructEq
import Derived.MapKept
import Derived.Carry
set_option linter.unusedSectionVars false
set_option linter.unusedVariables false
set_option linter.unusedSimpArgs false
namespace Go
open Go.RowKit
namespace Kin

theorem cutK_of {β : Type} {l : List Value} {o n : Nat} {k : List Value → Option β} (h : o + n ≤ l.length) : cutK l o n k = k ((l.drop o).take n) := by
  induction l generalizing o n k with
  | nil =>
    simp only [List.length_nil] at h
    obtain rfl : o = 0 := by omega
    obtain rfl : n = 0 := by omega
    rfl
  | cons x l ih =>
    cases o with
    | zero =>
      cases n with
      | zero => rfl
      | succ n =>
        simp only [cutK]
        rw [ih (by simp only [List.length_cons] at h; omega)]
        rfl
    | succ o =>
      simp only [cutK]
      rw [ih (by simp only [List.length_cons] at h; omega)]
      rfl

/-- `cs` has the row `r` at `o`. -/
structure RowAt (cs : List Value) (o : Nat) (r : List Value) : Prop where
  fits : o + r.length ≤ cs.length
  eq : (cs.drop o).take r.length = r

theorem RowAt.agg {cs : List Value} {o sz : Nat} {r : List Value} (h : RowAt cs o r) (hs : r.length = sz) : aggV true sz cs o = some (.agg ⟨r⟩) := by
  subst hs
  show cutK cs o r.length (fun r => some (Value.agg ⟨r⟩)) = _
  rw [cutK_of h.fits, h.eq]
theorem RowAt.get {cs : List Value} {o f : Nat} {r : List Value} {v : Value} (h : RowAt cs o r) (hv : r[f]? = some v) : cs[o + f]? = some v := by
  have hf := (List.getElem?_eq_some_iff.1 hv).1
  have h1 : ((cs.drop o).take r.length)[f]? = some v := by rw [h.eq]; exact hv
  rw [List.getElem?_take, if_pos hf, List.getElem?_drop] at h1
  exact h1

theorem rowAt_flatten {rs : List (List Value)} {rest : List Value} {sz i : Nat} {r : List Value} (h : ∀ r ∈ rs, r.length = sz) (hi : rs[i]? = some r) : RowAt (rs.flatten ++ rest) (i * sz) r := by
  induction rs generalizing i with
  | nil => cases hi
  | cons x rs ih =>
    have hx := h x List.mem_cons_self
    cases i with
    | zero =>
      cases hi
      refine ⟨?_, ?_⟩
      · simp only [List.flatten_cons, List.length_append]; omega
      · simp only [Nat.zero_mul, List.drop_zero, List.flatten_cons, List.append_assoc, List.take_left']
    | succ i =>
      have ih := ih (fun r hr => h r (List.mem_cons_of_mem _ hr)) hi
      rw [List.flatten_cons, List.append_assoc, Nat.succ_mul, Nat.add_comm (i * sz) sz, ← hx]
      rw [hx]
      refine ⟨?_, ?_⟩
      · have := ih.fits; rw [List.length_append, hx]; omega
      · rw [← hx, ← List.drop_drop, List.drop_left, hx]; exact ih.eq

theorem splice_flatten {rs : List (List Value)} {rest : List Value} {sz i : Nat} {r : List Value} (h : ∀ r ∈ rs, r.length = sz) (hi : i < rs.length) (hr : r.length = sz) : splice (rs.flatten ++ rest) (i * sz) r = (rs.set i r).flatten ++ rest := by
  induction rs generalizing i with
  | nil => cases hi
  | cons x rs ih =>
    have hx := h x List.mem_cons_self
    cases i with
    | zero =>
      simp only [splice, Nat.zero_mul, List.take_zero, List.nil_append, Nat.zero_add, List.set_cons_zero, List.flatten_cons, List.append_assoc]
      rw [hr, ← hx, List.drop_left]
    | succ i =>
      have ih := ih (fun r hr => h r (List.mem_cons_of_mem _ hr)) (by simpa using hi)
      simp only [splice] at ih ⊢
      rw [List.flatten_cons, Nat.succ_mul, Nat.add_comm (i * sz) sz, List.set_cons_succ, List.flatten_cons, List.append_assoc x (rs.set i r).flatten, ← ih, List.append_assoc x rs.flatten]
      have e1 : (x ++ (rs.flatten ++ rest)).take (sz + i * sz) = x ++ (rs.flatten ++ rest).take (i * sz) := by rw [← hx, List.take_length_add_append]
      have e2 : (x ++ (rs.flatten ++ rest)).drop (sz + i * sz + r.length) = (rs.flatten ++ rest).drop (i * sz + r.length) := by
        rw [Nat.add_assoc, ← hx, List.drop_length_add_append]
      rw [e1, e2]
      simp only [List.append_assoc]

section
variable {P : Program} {N : Nat} {c : Cx} {env : List (Nat × Value)} {mem : List (Nat × Obj)} {tt : List (TypeId × TI)} {ty : TypeId} {pos : String} {af : Array Edge} {g : Option (Nat × Bool)} {dd : Option Tmp} [Wide c.F]
/-- a record out of a row of them -/
theorem v_load_row [T : TT P tt] {t b o sz bt : Nat} {x : Operand} {kd : TK} {z : Value} {cs r : List Value} {T' : TypeId} {fr : Nat × Nat}
    (hx : evOp env x = some (.pointer (some ⟨b, o, none⟩))) (hm : (b, Obj.cells ⟨cs⟩ T' fr) ∈ mem) (ht : look tt t = some ⟨kd, sz, bt, z⟩) (hk : kd.isAgg = true) (hr : RowAt cs o r) (hs : Nat.beq r.length sz = true) :
    OpVal P N c env mem ⟨dd, .load t x, ty, pos, af, g⟩ (.agg ⟨r⟩) :=
  v_load hx hm ht (by rw [hk]; exact hr.agg (Nat.eq_of_beq_eq_true hs))
end

/-! ## Where ways meet, in one of many states -/
structure MidI (N : Nat) (c : Cx) {ι : Type} (I : ι → Prop) (E : ι → List (Nat × Value)) (M : ι → List (Nat × Obj)) (a : Act) (W : World) : Prop where
  ex : ∃ i, I i ∧ SatA N c.ds (E i) a ∧ SatW c.w0 c.D c.J (M i) W
section
variable {P : Program} {N : Nat} {c : Cx} {Q : Exit → Act → World → Prop} {env : List (Nat × Value)} {mem : List (Nat × Obj)} {ι : Type}
theorem c_joinI {x y : Code} (I : ι → Prop) (E : ι → List (Nat × Value)) (M : ι → List (Nat × Obj)) (k1 : RunC P N c x (Exit.then (MidI N c I E M) Q) env mem) (k2 : ∀ i, I i → RunC P N c y Q (E i) (M i)) : RunC P N c (.seq x y) Q env mem :=
  .mk fun a W ha hm => wpIn_seq (wpIn_mono (k1.run a W ha hm) fun e a' W' h => by
    cases e with
    | normal =>
      obtain ⟨i, h1, h2, h3⟩ := h.ex
      exact (k2 i h1).run a' W' h2 h3
    | _ => exact h)
theorem x_midI {I : ι → Prop} {E : ι → List (Nat × Value)} {M : ι → List (Nat × Obj)} {Q' : Exit → Act → World → Prop} (i : ι) (hI : I i) (hE : EnvSub env (E i)) (hM : MSub mem (M i)) : RunX N c (Exit.then (MidI N c I E M) Q') .normal env mem :=
  .mk fun _ _ ha hm => ⟨i, hI, hE.sat ha, hm.mono hM.sub⟩
end
end Kin
end Go

set_option linter.unusedSectionVars false
set_option linter.unusedVariables false
set_option linter.unusedSimpArgs false
namespace Go
open Go.RowKit
namespace Kin

/-- a slice in a block that is known -/
theorem SatW.rows {w0 W : World} {D : Nat → Prop} {J : (Nat → Prop) → World → Prop} {mem : List (Nat × Obj)} (hW : SatW w0 D J mem W) {b : Nat} {cs : List Value} {T : TypeId} {fr : Nat × Nat} (hm : (b, Obj.cells ⟨cs⟩ T fr) ∈ mem)
    {rows : List (List Value)} {sz : Nat} {rest : List Value} (he : cs = rows.flatten ++ rest) (hl : ∀ r ∈ rows, r.length = sz) : At W (some ⟨b, 0, none⟩) sz rows := fun i r hi => by
  refine ⟨b, 0, rfl, fun j v hj => ?_⟩
  rw [Nat.zero_add, hW.cellAt hm, he]
  exact (rowAt_flatten hl hi).get hj
/-! ## Records compared -/
/-- '==' on the type goes field by field -/
structure EqS (P : Program) (t : TypeId) : Prop where
  nb : (P.fieldsOf t).toList.all (fun f => f.name != "_") = true
  st : P.stoodInHeld t = false
  eg : P.eqGuardType P.depth t = false

class EqAll (P : Program) (es : outParam (List TypeId)) : Prop where
  ok : ∀ t ∈ es, EqS P t

theorem eqs_nil {P : Program} : ∀ t ∈ ([] : List TypeId), EqS P t := fun t h => by cases h
theorem eqs_cons {P : Program} {t : TypeId} {es : List TypeId} (h : EqS P t) (k : ∀ t ∈ es, EqS P t) : ∀ x ∈ t :: es, EqS P x := fun x hx => by
  rcases List.mem_cons.1 hx with rfl | hx
  · exact h
  · exact k x hx

section
variable {P : Program} {tt : List (TypeId × TI)} {es : List TypeId} {W : World}

end

section
variable {P : Program} {N : Nat} {c : Cx} {Q : Exit → Act → World → Prop} {env : List (Nat × Value)} {mem : List (Nat × Obj)} {L l : List Oper} [Wide c.F]
  {tt : List (TypeId × TI)} {es : List TypeId} {d : Nat} {ty : TypeId} {pos : String} {af : Array Edge} {g : Option (Nat × Bool)} {dd : Option Tmp}

/-- a test that a reckoning decides -/
theorem c_bt {t : Operand} {x y : Code} {b : Bool} (h : evOp env t = some (.bool b)) (e : b = true) (k : RunC P N c x Q env mem) : RunC P N c (.cond t x y) Q env mem := c_true (by rw [h, e]) k
theorem c_bf {t : Operand} {x y : Code} {b : Bool} (h : evOp env t = some (.bool b)) (e : b = false) (k : RunC P N c y Q env mem) : RunC P N c (.cond t x y) Q env mem := c_false (by rw [h, e]) k
/-! ## Maps -/
def findB (f : Value → Bool) : List MapEntry → Nat → Option (Nat × Value)
  | [], _ => none
  | e :: es, i => match f e.key with
    | true => some (i, e.val)
    | false => findB f es (i + 1)

theorem run_findAsking {kt : TypeId} {k : Value} {f : Value → Bool} {W : World} : ∀ (es : List MapEntry) (i : Nat), (∀ e ∈ es, (Op.equal kt k e.key).run P W = .ok (f e.key) W) → (Instr.findAsking kt k es i).run P W = .ok (findB f es i) W
  | [], i, _ => rfl
  | e :: es, i, h => by
    simp only [Instr.findAsking, Sem.run_bind, h e List.mem_cons_self, Result.andThen_ok, findB]
    cases f e.key
    · simp only [Bool.false_eq_true, if_false]; exact run_findAsking es (i + 1) fun e he => h e (List.mem_cons_of_mem _ he)
    · simp only [if_true]; rfl

/-- what keys are looked up by '==' on the type -/
def asks : TypeDesc → Bool
  | .struct _ => true
  | .array _ _ => true
  | _ => false

theorem run_findKey {kt : TypeId} {k : Value} {f : Value → Bool} {W : World} {dk : TypeDesc} (hu : P.underlying kt = some dk) (hk : asks dk = true) (es : List MapEntry) (h : ∀ e ∈ es, (Op.equal kt k e.key).run P W = .ok (f e.key) W) :
    (Instr.findKey kt k es).run P W = .ok (findB f es 0) W := by
  simp only [Instr.findKey, Sem.run_bind, run_und hu, Result.andThen_ok]
  cases es with
  | nil => rfl
  | cons e es =>
    have : Instr.findNow dk k (e :: es) 0 = none := by
      cases dk <;> first | (cases hk; done) | rfl
    rw [this]
    exact run_findAsking _ 0 h

theorem run_checkPlain {em : Bool} {n : Nat} {t : TypeId} {v : Value} {W : World} {dk : TypeDesc} (hu : P.underlying t = some dk) (hk : (match dk with | .int _ | .bool => true | _ => false) = true) : (Instr.checkKey em (n + 1) t v).run P W = .ok () W := by
  simp only [Instr.checkKey, Sem.run_bind, run_und hu, Result.andThen_ok]
  cases dk <;> first | (cases hk; done) | rfl

theorem r_makeMap {t : TypeId} (hw : wantB L env g = some true) (hd : Nat.blt d N = true) (k : ∀ b, RunL P N c L l Q ((d, .map (some b)) :: env) ((b, .map ⟨[]⟩ 0) :: mem)) :
    RunL P N c L (⟨some d, .makeMap t none, ty, pos, af, g⟩ :: l) Q env mem := by
  refine l_eff (ι := Nat) (v := fun b => .map (some b)) (mem' := fun b => (b, .map ⟨[]⟩ 0) :: mem) hw hd ⟨rfl, fun a W ha hm => ?_⟩ k
  exact ⟨W.heap.size, _, rfl, hm.alloc _⟩

end
end Kin
end Go
