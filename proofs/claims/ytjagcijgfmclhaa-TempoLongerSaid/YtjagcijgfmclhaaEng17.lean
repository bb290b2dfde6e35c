/- The engine: tests that are pairs of tests, or their opposites (as == and != of records of two numbers give them). Generic: no program is named here. -/
import Derived.Test.YtjagcijgfmclhaaEng16
set_option linter.unusedSectionVars false
set_option linter.unusedVariables false
set_option linter.unusedSimpArgs false
namespace Go
open Go.RowKit
namespace Kin
section
variable {P : Program} {N : Nat} {c : Cx} {Q : Exit → Act → World → Prop} {env : List (Nat × Value)} {mem : List (Nat × Obj)} {L l : List Oper} {o o' : Oper} {j d : Nat} {w : Bool} {p q : Prop} [Decidable p] [Decidable q] [Wide c.F] {t : Operand} {x y : Code}
theorem and_t (hp : p) (hq : q) : (decide p && decide q) = true := by rw [decide_eq_true hp, decide_eq_true hq]; rfl
theorem and_f (h : ¬ (p ∧ q)) : (decide p && decide q) = false := by rw [← Bool.decide_and]; exact decide_eq_false h
theorem nand_t (h : ¬ (p ∧ q)) : (!(decide p && decide q)) = true := by rw [and_f h]; rfl
theorem nand_f (hp : p) (hq : q) : (!(decide p && decide q)) = false := by rw [and_t hp hq]; rfl
theorem not_t (h : ¬ p) : (!decide p) = true := by rw [decide_eq_false h]; rfl
theorem not_f (h : p) : (!decide p) = false := by rw [decide_eq_true h]; rfl
theorem l_and_t (hg : o.guard = some (j, w)) (hj : nth L j = some o') (hd : o'.dst = some d) (hb : look env d = some (.bool (decide p && decide q))) (h1 : p) (h2 : q) (k : RunL P N c L (o :: l) Q ((d, .bool true) :: env) mem) : RunL P N c L (o :: l) Q env mem := l_bool hg hj hd hb (and_t h1 h2) k
theorem q_and_t (hg : o.guard = some (j, w)) (hj : nth L j = some o') (hd : o'.dst = some d) (hb : look env d = some (.bool (decide p && decide q))) (h1 : p) (h2 : q) (k : RunQ P N c L (o :: l) Q ((d, .bool true) :: env) mem) : RunQ P N c L (o :: l) Q env mem := q_bool hg hj hd hb (and_t h1 h2) k
theorem c_and_t (h : evOp env t = some (.bool (decide p && decide q))) (h1 : p) (h2 : q) (k : RunC P N c x Q env mem) : RunC P N c (.cond t x y) Q env mem := c_bt h (and_t h1 h2) k
theorem l_and_f (hg : o.guard = some (j, w)) (hj : nth L j = some o') (hd : o'.dst = some d) (hb : look env d = some (.bool (decide p && decide q))) (h1 : ¬ (p ∧ q)) (k : RunL P N c L (o :: l) Q ((d, .bool false) :: env) mem) : RunL P N c L (o :: l) Q env mem := l_bool hg hj hd hb (and_f h1) k
theorem q_and_f (hg : o.guard = some (j, w)) (hj : nth L j = some o') (hd : o'.dst = some d) (hb : look env d = some (.bool (decide p && decide q))) (h1 : ¬ (p ∧ q)) (k : RunQ P N c L (o :: l) Q ((d, .bool false) :: env) mem) : RunQ P N c L (o :: l) Q env mem := q_bool hg hj hd hb (and_f h1) k
theorem c_and_f (h : evOp env t = some (.bool (decide p && decide q))) (h1 : ¬ (p ∧ q)) (k : RunC P N c y Q env mem) : RunC P N c (.cond t x y) Q env mem := c_bf h (and_f h1) k
theorem l_nand_t (hg : o.guard = some (j, w)) (hj : nth L j = some o') (hd : o'.dst = some d) (hb : look env d = some (.bool (!(decide p && decide q)))) (h1 : ¬ (p ∧ q)) (k : RunL P N c L (o :: l) Q ((d, .bool true) :: env) mem) : RunL P N c L (o :: l) Q env mem := l_bool hg hj hd hb (nand_t h1) k
theorem q_nand_t (hg : o.guard = some (j, w)) (hj : nth L j = some o') (hd : o'.dst = some d) (hb : look env d = some (.bool (!(decide p && decide q)))) (h1 : ¬ (p ∧ q)) (k : RunQ P N c L (o :: l) Q ((d, .bool true) :: env) mem) : RunQ P N c L (o :: l) Q env mem := q_bool hg hj hd hb (nand_t h1) k
theorem c_nand_t (h : evOp env t = some (.bool (!(decide p && decide q)))) (h1 : ¬ (p ∧ q)) (k : RunC P N c x Q env mem) : RunC P N c (.cond t x y) Q env mem := c_bt h (nand_t h1) k
theorem l_nand_f (hg : o.guard = some (j, w)) (hj : nth L j = some o') (hd : o'.dst = some d) (hb : look env d = some (.bool (!(decide p && decide q)))) (h1 : p) (h2 : q) (k : RunL P N c L (o :: l) Q ((d, .bool false) :: env) mem) : RunL P N c L (o :: l) Q env mem := l_bool hg hj hd hb (nand_f h1 h2) k
theorem q_nand_f (hg : o.guard = some (j, w)) (hj : nth L j = some o') (hd : o'.dst = some d) (hb : look env d = some (.bool (!(decide p && decide q)))) (h1 : p) (h2 : q) (k : RunQ P N c L (o :: l) Q ((d, .bool false) :: env) mem) : RunQ P N c L (o :: l) Q env mem := q_bool hg hj hd hb (nand_f h1 h2) k
theorem c_nand_f (h : evOp env t = some (.bool (!(decide p && decide q)))) (h1 : p) (h2 : q) (k : RunC P N c y Q env mem) : RunC P N c (.cond t x y) Q env mem := c_bf h (nand_f h1 h2) k
omit [Decidable q] in
theorem l_not_t (hg : o.guard = some (j, w)) (hj : nth L j = some o') (hd : o'.dst = some d) (hb : look env d = some (.bool (!decide p))) (h1 : ¬ p) (k : RunL P N c L (o :: l) Q ((d, .bool true) :: env) mem) : RunL P N c L (o :: l) Q env mem := l_bool hg hj hd hb (not_t h1) k
omit [Decidable q] in
theorem q_not_t (hg : o.guard = some (j, w)) (hj : nth L j = some o') (hd : o'.dst = some d) (hb : look env d = some (.bool (!decide p))) (h1 : ¬ p) (k : RunQ P N c L (o :: l) Q ((d, .bool true) :: env) mem) : RunQ P N c L (o :: l) Q env mem := q_bool hg hj hd hb (not_t h1) k
omit [Decidable q] in
theorem c_not_t (h : evOp env t = some (.bool (!decide p))) (h1 : ¬ p) (k : RunC P N c x Q env mem) : RunC P N c (.cond t x y) Q env mem := c_bt h (not_t h1) k
omit [Decidable q] in
theorem l_not_f (hg : o.guard = some (j, w)) (hj : nth L j = some o') (hd : o'.dst = some d) (hb : look env d = some (.bool (!decide p))) (h1 : p) (k : RunL P N c L (o :: l) Q ((d, .bool false) :: env) mem) : RunL P N c L (o :: l) Q env mem := l_bool hg hj hd hb (not_f h1) k
omit [Decidable q] in
theorem q_not_f (hg : o.guard = some (j, w)) (hj : nth L j = some o') (hd : o'.dst = some d) (hb : look env d = some (.bool (!decide p))) (h1 : p) (k : RunQ P N c L (o :: l) Q ((d, .bool false) :: env) mem) : RunQ P N c L (o :: l) Q env mem := q_bool hg hj hd hb (not_f h1) k
omit [Decidable q] in
theorem c_not_f (h : evOp env t = some (.bool (!decide p))) (h1 : p) (k : RunC P N c y Q env mem) : RunC P N c (.cond t x y) Q env mem := c_bf h (not_f h1) k
end
section
variable {P : Program} {N : Nat} {c : Cx} {Q : Exit → Act → World → Prop} {env env' : List (Nat × Value)} {mem mem' : List (Nat × Obj)} {x : Code}
/-- only some of what is known of the frame is kept -/
def keepOf (env : List (Nat × Value)) : List Nat → Option (List (Nat × Value))
  | [] => some []
  | k :: ks => match look env k with
    | some v => match keepOf env ks with
      | some l => some ((k, v) :: l)
      | none => none
    | none => none
theorem keepOf_look : ∀ {ks : List Nat} {env' : List (Nat × Value)}, keepOf env ks = some env' → ∀ s v, look env' s = some v → look env s = some v
  | [], env', h, s, v, hs => by cases h; cases hs
  | k :: ks, env', h, s, v, hs => by
    simp only [keepOf] at h
    split at h
    · rename_i u hu
      split at h
      · rename_i l hl
        cases h
        rw [look_cons] at hs
        split at hs
        · rename_i e; subst e; cases hs; exact hu
        · exact keepOf_look hl s v hs
      · cases h
    · cases h
theorem c_keep (ks : List Nat) (h : keepOf env ks = some env') (k : RunC P N c x Q env' mem) : RunC P N c x Q env mem := .mk fun a W ha hm =>
  k.run a W ⟨ha.size, ha.defers, fun s v hs => ha.env _ _ (keepOf_look h s v hs)⟩ hm
theorem c_drop (h : MSub mem mem') (k : RunC P N c x Q env mem') : RunC P N c x Q env mem := .mk fun a W ha hm => k.run a W ha (hm.mono h.sub)
end
end Kin
end Go
