/- The engine: records compared, maps keyed by records. Generic: no program is named here. -/
import Derived.Test.YtajnkdgbpffinaaGreatEng10
import Derived.Laws.StructEq
import Derived.MapKept
import Derived.Carry
set_option linter.unusedSectionVars false
set_option linter.unusedVariables false
set_option linter.unusedSimpArgs false
namespace Go
open Go.RowKit
namespace Kin

/-- a slice in a block that is known -/
theorem SatW.rows {w0 W : World} {D : Nat -> Prop} {J : (Nat -> Prop) -> World -> Prop} {mem : List (Nat × Obj)} (hW : SatW w0 D J mem W) {b : Nat} {cs : List Value} {T : TypeId} {fr : Nat × Nat} (hm : (b, Obj.cells ⟨cs⟩ T fr) ∈ mem)
  {rows : List (List Value)} {sz : Nat} {rest : List Value} (he : cs = rows.flatten ++ rest) (hl : ∀ r ∈ rows, r.length = sz) : At W (some ⟨b, 0, none⟩) sz rows := fun i r hi => by
 refine ⟨b, 0, rfl, fun j v hj => ?_⟩
 rw [Nat.zero_add, hW.cellAt hm, he]
 exact (rowAt_flatten hl hi).get hj
/-! ## Records compared -/
/-- '==' on the type goes field by field -/
structure EqS (P : Program) (t : TypeId) : Prop where
 nb : (P.fieldsOf t).toList.all (fun f => f.name != "_") = true
 st : P.stoodInHeld t = false
 eg : P.eqGuardType P.depth t = false

class EqAll (P : Program) (es : outParam (List TypeId)) : Prop where
 ok : ∀ t ∈ es, EqS P t

theorem eqs_nil {P : Program} : ∀ t ∈ ([] : List TypeId), EqS P t := fun t h => by cases h
theorem eqs_cons {P : Program} {t : TypeId} {es : List TypeId} (h : EqS P t) (k : ∀ t ∈ es, EqS P t) : ∀ x ∈ t :: es, EqS P x := fun x hx => by
 rcases List.mem_cons.1 hx with rfl | hx
 ·exact h
 ·exact k x hx

def eqFs (tt : List (TypeId × TI)) (E : TypeId -> Value -> Value -> Option Bool) (xs ys : List Value) : List (TypeId × Nat) -> Option Bool
 | [] => some true
 | (ft, off) :: fs => match look tt ft with
   | some ⟨kd, sz, _, _⟩ => match aggV kd.isAgg sz xs off with
     | some x => match aggV kd.isAgg sz ys off with
       | some y => match E ft x y with
         | some b => match fs with
           | [] => some b
           | _ :: _ => match eqFs tt E xs ys fs with
             | some r => some (b && r)
             | none => none
         | none => none
       | none => none
     | none => none
   | none => none

def eqV (tt : List (TypeId × TI)) (es : List TypeId) : Nat -> TypeId -> Value -> Value -> Option Bool
 | 0, _, _, _ => none
 | n + 1, t, x, y => match look tt t with
   | some ⟨.int _, _, _, _⟩ => match x with
     | .int k a => match y with
       | .int k' b => if k = k' then some (decide (a = b)) else none
       | _ => none
     | _ => none
   | some ⟨.bool, _, _, _⟩ => match x with
     | .bool a => match y with
       | .bool b => some (decide (a = b))
       | _ => none
     | _ => none
   | some ⟨.str, _, _, _⟩ => match x with
     | .string a => match y with
       | .string b => some (a.toList == b.toList)
       | _ => none
     | _ => none
   | some ⟨.struct fs, _, _, _⟩ => match x with
     | .agg ⟨xs⟩ => match y with
       | .agg ⟨ys⟩ => match es.any (Nat.beq t) with
         | true => eqFs tt (eqV tt es n) xs ys fs
         | false => none
       | _ => none
     | _ => none
   | _ => none

section
variable {P : Program} {tt : List (TypeId × TI)} {es : List TypeId} {W : World}

theorem eqFs_run [T : TT P tt] {E : TypeId -> Value -> Value -> Option Bool} {d : Nat} (hE : ∀ t x y b, E t x y = some b -> (Op.equalIn d t x y).run P W = .ok b W) {xs ys : List Value} :
  ∀ (l : List Field), l.all (fun f => f.name != "_") = true -> ∀ b, eqFs tt E xs ys (l.map fun f => (f.type, f.offset)) = some b -> (Op.eqFields d ⟨xs⟩ ⟨ys⟩ l).run P W = .ok b W
 | [], _, b, h => by
  simp only [List.map_nil, eqFs, Option.some.injEq] at h
  subst h; rfl
 | f :: l, hn, b, h => by
  simp only [List.all_cons, Bool.and_eq_true, bne_iff_ne, ne_eq] at hn
  obtain ⟨h1, h2⟩ := hn
  simp only [List.map_cons, eqFs] at h
  split at h
  ·rename_i kd sz _ _ ht
   split at h
   ·rename_i x hx
    split at h
    ·rename_i y hy
     split at h
     ·rename_i b1 hb1
      have p1 := run_part (P := P) (W := W) (TT.look ht).size (TT.look ht).1 hx
      have p2 := run_part (P := P) (W := W) (TT.look ht).size (TT.look ht).1 hy
      simp only [Op.eqFields, if_pos h1, Sem.run_bind, p1, p2, Result.andThen_ok, hE _ _ _ _ hb1]
      split at h
      ·rename_i hl
       cases h
       have : l = [] := by cases l with
        | nil => rfl
        | cons _ _ => cases hl
       subst this
       cases b <;> rfl
      ·rename_i hl
       split at h
       ·rename_i r hr
        cases h
        have ih := eqFs_run (xs := xs) (ys := ys) hE l h2 r hr
        cases b1
        ·rfl
        ·simp only [Bool.not_true, Bool.false_eq_true, if_false, Bool.true_and]; exact ih
       ·cases h
     ·cases h
    ·cases h
   ·cases h
  ·cases h

theorem eqV_run [T : TT P tt] [Ee : EqAll P es] : ∀ (n d : Nat) (t : TypeId) (x y : Value) (b : Bool), eqV tt es n t x y = some b -> (Op.equalIn (d + n) t x y).run P W = .ok b W
 | 0, _, _, _, _, _, h => by cases h
 | n + 1, d, t, x, y, b, h => by
  show (Op.equalIn (d + n + 1) t x y).run P W = _
  simp only [eqV] at h
  split at h
  ·rename_i ht
   split at h
   ·split at h
    ·split at h
     ·rename_i hk; subst hk; cases h
      rw [run_equalIn_int W (d + n) t _ _ _ _ (TT.look (P := P) ht).1]; rfl
     ·cases h
    ·cases h
   ·cases h
  ·rename_i ht
   split at h
   ·split at h
    ·cases h
     rw [run_equalIn_bool' W (d + n) t _ _ (TT.look (P := P) ht).1]; rfl
    ·cases h
   ·cases h
  ·rename_i ht
   split at h
   ·split at h
    ·cases h
     exact run_equalIn_string W (d + n) t _ _ (TT.look (P := P) ht).1
    ·cases h
   ·cases h
  ·rename_i fs _ _ _ ht
   split at h
   ·split at h
    ·split at h
     ·rename_i hm
      obtain ⟨u, hu, he⟩ := List.any_eq_true.1 hm
      have := Nat.eq_of_beq_eq_true he
      subst this
      obtain ⟨fields, hf, hmap⟩ := (TT.look (P := P) ht).1
      have S := Ee.ok _ hu
      have hfo : P.fieldsOf t = fields := by simp [Program.fieldsOf, hf]
      rw [run_equalIn_struct W (d + n) t _ _ (by rw [hfo]; exact hf) S.st]
      have hnb := S.nb
      rw [hfo] at hnb ⊢
      exact eqFs_run (fun t x y b hb => eqV_run n d t x y b hb) fields.toList hnb b (by rw [hmap]; exact h)
     ·cases h
    ·cases h
   ·cases h
  ·cases h

theorem eq_run [T : TT P tt] [Ee : EqAll P es] {t : TypeId} {x y : Value} {b : Bool} (h : eqV tt es 8 t x y = some b) : (Op.equal t x y).run P W = .ok b W := eqV_run 8 9992 t x y b h
end

section
variable {P : Program} {N : Nat} {c : Cx} {Q : Exit -> Act -> World -> Prop} {env : List (Nat × Value)} {mem : List (Nat × Obj)} {L l : List Oper} [Wide c.F]
 {tt : List (TypeId × TI)} {es : List TypeId} {d : Nat} {ty : TypeId} {pos : String} {af : Array Edge} {g : Option (Nat × Bool)} {dd : Option Tmp}

theorem v_eqS [T : TT P tt] [Ee : EqAll P es] {t t' : TypeId} {x y : Operand} {xs ys : List Value} {b : Bool} (hx : evOp env x = some (.agg ⟨xs⟩)) (hy : evOp env y = some (.agg ⟨ys⟩)) (hm : es.any (Nat.beq t) = true)
  (h : eqV tt es 8 t (.agg ⟨xs⟩) (.agg ⟨ys⟩) = some b) : OpVal P N c env mem ⟨dd, .binOp .eql t x y t', ty, pos, af, g⟩ (.bool b) :=
 ⟨rfl, fun a W ha _ => by
  obtain ⟨u, hu, he⟩ := List.any_eq_true.1 hm
  have := Nat.eq_of_beq_eq_true he
  subst this
  simp only [execOp, ha.eval hx, ha.eval hy, Sem.run_bind, run_eqGuard_agg W .eql t x y _ _ (Ee.ok _ hu).eg, Result.andThen_ok, binOp, eq_run h]
  rfl⟩
theorem v_neS [T : TT P tt] [Ee : EqAll P es] {t t' : TypeId} {x y : Operand} {xs ys : List Value} {b : Bool} (hx : evOp env x = some (.agg ⟨xs⟩)) (hy : evOp env y = some (.agg ⟨ys⟩)) (hm : es.any (Nat.beq t) = true)
  (h : eqV tt es 8 t (.agg ⟨xs⟩) (.agg ⟨ys⟩) = some b) : OpVal P N c env mem ⟨dd, .binOp .neq t x y t', ty, pos, af, g⟩ (.bool (!b)) :=
 ⟨rfl, fun a W ha _ => by
  obtain ⟨u, hu, he⟩ := List.any_eq_true.1 hm
  have := Nat.eq_of_beq_eq_true he
  subst this
  simp only [execOp, ha.eval hx, ha.eval hy, Sem.run_bind, run_eqGuard_agg W .neq t x y _ _ (Ee.ok _ hu).eg, Result.andThen_ok, binOp, eq_run h]
  rfl⟩

/-! ## Maps -/
def findB (f : Value -> Bool) : List MapEntry -> Nat -> Option (Nat × Value)
 | [], _ => none
 | e :: es, i => match f e.key with
   | true => some (i, e.val)
   | false => findB f es (i + 1)

theorem run_findAsking {kt : TypeId} {k : Value} {f : Value -> Bool} {W : World} : ∀ (es : List MapEntry) (i : Nat), (∀ e ∈ es, (Op.equal kt k e.key).run P W = .ok (f e.key) W) -> (Instr.findAsking kt k es i).run P W = .ok (findB f es i) W
 | [], i, _ => rfl
 | e :: es, i, h => by
  simp only [Instr.findAsking, Sem.run_bind, h e List.mem_cons_self, Result.andThen_ok, findB]
  cases f e.key
  ·simp only [Bool.false_eq_true, if_false]; exact run_findAsking es (i + 1) fun e he => h e (List.mem_cons_of_mem _ he)
  ·simp only [if_true]; rfl

/-- what keys are looked up by '==' on the type -/
def asks : TypeDesc -> Bool
 | .struct _ => true
 | .array _ _ => true
 | _ => false

theorem run_findKey {kt : TypeId} {k : Value} {f : Value -> Bool} {W : World} {dk : TypeDesc} (hu : P.underlying kt = some dk) (hk : asks dk = true) (es : List MapEntry) (h : ∀ e ∈ es, (Op.equal kt k e.key).run P W = .ok (f e.key) W) :
  (Instr.findKey kt k es).run P W = .ok (findB f es 0) W := by
 simp only [Instr.findKey, Sem.run_bind, run_und hu, Result.andThen_ok]
 cases es with
 | nil => rfl
 | cons e es =>
  have : Instr.findNow dk k (e :: es) 0 = none := by
   cases dk <;> first|(cases hk; done)|rfl
  rw [this]
  exact run_findAsking _ 0 h

/-- keys that are records of plain cells -/
def keyF (tt : List (TypeId × TI)) (xs : List Value) : List (TypeId × Nat) -> Bool
 | [] => true
 | (ft, off) :: fs => match look tt ft with
   | some ⟨.int _, _, _, _⟩ => match nth xs off with
     | some _ => keyF tt xs fs
     | none => false
   | some ⟨.bool, _, _, _⟩ => match nth xs off with
     | some _ => keyF tt xs fs
     | none => false
   | _ => false

theorem run_checkPlain {em : Bool} {n : Nat} {t : TypeId} {v : Value} {W : World} {dk : TypeDesc} (hu : P.underlying t = some dk) (hk : (match dk with | .int _ | .bool => true | _ => false) = true) : (Instr.checkKey em (n + 1) t v).run P W = .ok () W := by
 simp only [Instr.checkKey, Sem.run_bind, run_und hu, Result.andThen_ok]
 cases dk <;> first|(cases hk; done)|rfl

theorem run_checkS [T : TT P tt] {em : Bool} {n : Nat} {t : TypeId} {xs : List Value} {W : World} {fs : List (TypeId × Nat)} {sz bt : Nat} {z : Value} (ht : look tt t = some ⟨.struct fs, sz, bt, z⟩) (h : keyF tt xs fs = true) :
  (Instr.checkKey em (n + 2) t (.agg ⟨xs⟩)).run P W = .ok () W := by
 obtain ⟨fields, hf, hmap⟩ := (TT.look (P := P) ht).1
 have key : ∀ l : List Field, keyF tt xs (l.map fun f => (f.type, f.offset)) = true ->
   (forIn l PUnit.unit (fun f _ => if f.name ≠ "_" then do
     let r <- part f.type ⟨xs⟩ f.offset
     Instr.checkKey em (n + 1) f.type r
     pure (ForInStep.yield PUnit.unit)
    else pure (ForInStep.yield PUnit.unit)) : Sem PUnit).run P W = .ok () W := by
  intro l
  induction l with
  | nil => intro _; rfl
  | cons f l ih =>
   intro h
   simp only [List.map_cons, keyF] at h
   have step : ∃ v, (part f.type ⟨xs⟩ f.offset).run P W = .ok v W /\ (Instr.checkKey em (n + 1) f.type v).run P W = .ok () W /\ keyF tt xs (l.map fun f => (f.type, f.offset)) = true := by
    split at h
    ·rename_i ht
     split at h
     ·rename_i v hv
      exact ⟨v, run_part (TT.look ht).size (TT.look ht).1 hv, run_checkPlain (TT.look (P := P) ht).1 rfl, h⟩
     ·cases h
    ·rename_i ht
     split at h
     ·rename_i v hv
      exact ⟨v, run_part (TT.look ht).size (TT.look ht).1 hv, run_checkPlain (TT.look (P := P) ht).1 rfl, h⟩
     ·cases h
    ·cases h
   obtain ⟨v, h1, h2, h3⟩ := step
   simp only [List.forIn_cons, Sem.run_bind]
   by_cases hn : f.name = "_"
   ·simp only [hn, ne_eq, not_true_eq_false, if_false, Sem.run_pure, Result.andThen_ok]; exact ih h3
   ·simp only [ne_eq, hn, not_false_eq_true, if_true, Sem.run_bind, h1, h2, Result.andThen_ok, Sem.run_pure]; exact ih h3
 have := key fields.toList (by rw [hmap]; exact h)
 rw [Array.forIn_toList] at this
 rw [Instr.checkKey]
 simp only [Sem.run_bind, run_und hf, Result.andThen_ok]
 rw [this]; rfl

theorem r_makeMap {t : TypeId} (hw : wantB L env g = some true) (hd : Nat.blt d N = true) (k : ∀ b, RunL P N c L l Q ((d, .map (some b)) :: env) ((b, .map ⟨[]⟩ 0) :: mem)) :
  RunL P N c L (⟨some d, .makeMap t none, ty, pos, af, g⟩ :: l) Q env mem := by
 refine l_eff (ι := Nat) (v := fun b => .map (some b)) (mem' := fun b => (b, .map ⟨[]⟩ 0) :: mem) hw hd ⟨rfl, fun a W ha hm => ?_⟩ k
 exact ⟨W.heap.size, _, rfl, hm.alloc _⟩

end
end Kin
end Go
