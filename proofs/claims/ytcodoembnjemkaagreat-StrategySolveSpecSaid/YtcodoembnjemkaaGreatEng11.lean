/- The engine: records compared, maps keyed by records. Generic: no program is named here. -/
import Derived.Test.YtcodoembnjemkaaGreatEng10
import Derived.Laws.StructEq
import Derived.MapKept
import Derived.Carry
set_option linter.unusedSectionVars false
set_option linter.unusedVariables false
set_option linter.unusedSimpArgs false
namespace Go
open Go.RowKit
namespace Kin

/-- a slice in a block that is known -/
theorem SatW.rows {w0 W : World} {D : Nat -> Prop} {J : (Nat -> Prop) -> World -> Prop} {mem : List (Nat × Obj)} (hW : SatW w0 D J mem W) {b : Nat} {cs : List Value} {T : TypeId} {fr : Nat × Nat} (hm : (b, Obj.cells ⟨cs⟩ T fr) ∈ mem)
  {rows : List (List Value)} {sz : Nat} {rest : List Value} (he : cs = rows.flatten ++ rest) (hl : ∀ r ∈ rows, r.length = sz) : At W (some ⟨b, 0, none⟩) sz rows := fun i r hi => by
 refine ⟨b, 0, rfl, fun j v hj => ?_⟩
 rw [Nat.zero_add, hW.cellAt hm, he]
 exact (rowAt_flatten hl hi).get hj
/-! ## Records compared -/
/-- '==' on the type goes field by field -/
structure EqS (P : Program) (t : TypeId) : Prop where
 nb : (P.fieldsOf t).toList.all (fun f => f.name != "_") = true
 st : P.stoodInHeld t = false
 eg : P.eqGuardType P.depth t = false

class EqAll (P : Program) (es : outParam (List TypeId)) : Prop where
 ok : ∀ t ∈ es, EqS P t

theorem eqs_nil {P : Program} : ∀ t ∈ ([] : List TypeId), EqS P t := fun t h => by cases h
theorem eqs_cons {P : Program} {t : TypeId} {es : List TypeId} (h : EqS P t) (k : ∀ t ∈ es, EqS P t) : ∀ x ∈ t :: es, EqS P x := fun x hx => by
 rcases List.mem_cons.1 hx with rfl | hx
 ·exact h
 ·exact k x hx

def eqFs (tt : List (TypeId × TI)) (E : TypeId -> Value -> Value -> Option Bool) (xs ys : List Value) : List (TypeId × Nat) -> Option Bool
 | [] => some true
 | (ft, off) :: fs => match look tt ft with
   | some ⟨kd, sz, _, _⟩ => match aggV kd.isAgg sz xs off with
     | some x => match aggV kd.isAgg sz ys off with
       | some y => match E ft x y with
         | some b => match fs with
           | [] => some b
           | _ :: _ => match eqFs tt E xs ys fs with
             | some r => some (b && r)
             | none => none
         | none => none
       | none => none
     | none => none
   | none => none

def eqV (tt : List (TypeId × TI)) (es : List TypeId) : Nat -> TypeId -> Value -> Value -> Option Bool
 | 0, _, _, _ => none
 | n + 1, t, x, y => match look tt t with
   | some ⟨.int _, _, _, _⟩ => match x with
     | .int k a => match y with
       | .int k' b => if k = k' then some (decide (a = b)) else none
       | _ => none
     | _ => none
   | some ⟨.bool, _, _, _⟩ => match x with
     | .bool a => match y with
       | .bool b => some (decide (a = b))
       | _ => none
     | _ => none
   | some ⟨.str, _, _, _⟩ => match x with
     | .string a => match y with
       | .string b => some (a.toList == b.toList)
       | _ => none
     | _ => none
   | some ⟨.struct fs, _, _, _⟩ => match x with
     | .agg ⟨xs⟩ => match y with
       | .agg ⟨ys⟩ => match es.any (Nat.beq t) with
         | true => eqFs tt (eqV tt es n) xs ys fs
         | false => none
       | _ => none
     | _ => none
   | _ => none

section
variable {P : Program} {tt : List (TypeId × TI)} {es : List TypeId} {W : World}

end

section
variable {P : Program} {N : Nat} {c : Cx} {Q : Exit -> Act -> World -> Prop} {env : List (Nat × Value)} {mem : List (Nat × Obj)} {L l : List Oper} [Wide c.F]
 {tt : List (TypeId × TI)} {es : List TypeId} {d : Nat} {ty : TypeId} {pos : String} {af : Array Edge} {g : Option (Nat × Bool)} {dd : Option Tmp}

/-- a test that a reckoning decides -/
theorem c_bt {t : Operand} {x y : Code} {b : Bool} (h : evOp env t = some (.bool b)) (e : b = true) (k : RunC P N c x Q env mem) : RunC P N c (.cond t x y) Q env mem := c_true (by rw [h, e]) k
theorem c_bf {t : Operand} {x y : Code} {b : Bool} (h : evOp env t = some (.bool b)) (e : b = false) (k : RunC P N c y Q env mem) : RunC P N c (.cond t x y) Q env mem := c_false (by rw [h, e]) k
/-! ## Maps -/
def findB (f : Value -> Bool) : List MapEntry -> Nat -> Option (Nat × Value)
 | [], _ => none
 | e :: es, i => match f e.key with
   | true => some (i, e.val)
   | false => findB f es (i + 1)

theorem run_findAsking {kt : TypeId} {k : Value} {f : Value -> Bool} {W : World} : ∀ (es : List MapEntry) (i : Nat), (∀ e ∈ es, (Op.equal kt k e.key).run P W = .ok (f e.key) W) -> (Instr.findAsking kt k es i).run P W = .ok (findB f es i) W
 | [], i, _ => rfl
 | e :: es, i, h => by
  simp only [Instr.findAsking, Sem.run_bind, h e List.mem_cons_self, Result.andThen_ok, findB]
  cases f e.key
  ·simp only [Bool.false_eq_true, if_false]; exact run_findAsking es (i + 1) fun e he => h e (List.mem_cons_of_mem _ he)
  ·simp only [if_true]; rfl

/-- what keys are looked up by '==' on the type -/
def asks : TypeDesc -> Bool
 | .struct _ => true
 | .array _ _ => true
 | _ => false

theorem run_findKey {kt : TypeId} {k : Value} {f : Value -> Bool} {W : World} {dk : TypeDesc} (hu : P.underlying kt = some dk) (hk : asks dk = true) (es : List MapEntry) (h : ∀ e ∈ es, (Op.equal kt k e.key).run P W = .ok (f e.key) W) :
  (Instr.findKey kt k es).run P W = .ok (findB f es 0) W := by
 simp only [Instr.findKey, Sem.run_bind, run_und hu, Result.andThen_ok]
 cases es with
 | nil => rfl
 | cons e es =>
  have : Instr.findNow dk k (e :: es) 0 = none := by
   cases dk <;> first|(cases hk; done)|rfl
  rw [this]
  exact run_findAsking _ 0 h

theorem run_checkPlain {em : Bool} {n : Nat} {t : TypeId} {v : Value} {W : World} {dk : TypeDesc} (hu : P.underlying t = some dk) (hk : (match dk with | .int _ | .bool => true | _ => false) = true) : (Instr.checkKey em (n + 1) t v).run P W = .ok () W := by
 simp only [Instr.checkKey, Sem.run_bind, run_und hu, Result.andThen_ok]
 cases dk <;> first|(cases hk; done)|rfl

theorem r_makeMap {t : TypeId} (hw : wantB L env g = some true) (hd : Nat.blt d N = true) (k : ∀ b, RunL P N c L l Q ((d, .map (some b)) :: env) ((b, .map ⟨[]⟩ 0) :: mem)) :
  RunL P N c L (⟨some d, .makeMap t none, ty, pos, af, g⟩ :: l) Q env mem := by
 refine l_eff (ι := Nat) (v := fun b => .map (some b)) (mem' := fun b => (b, .map ⟨[]⟩ 0) :: mem) hw hd ⟨rfl, fun a W ha hm => ?_⟩ k
 exact ⟨W.heap.size, _, rfl, hm.alloc _⟩

end
end Kin
end Go
