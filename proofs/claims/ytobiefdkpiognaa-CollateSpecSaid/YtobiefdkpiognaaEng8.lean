/- The engine: small additions. Generic: no program is named here. -/
import Derived.Test.YtobiefdkpiognaaEng7
import Derived.Scope
set_option linter.unusedSectionVars false
set_option linter.unusedVariables false
set_option linter.unusedSimpArgs false
namespace Go
open Go.RowKit
namespace Kin
theorem bvec_getE {n : Nat} {f : Nat → Bool} {i : Nat} {v : Bool} (h : i < n) (e : f i = v) : (bvec n f)[i]? = some (.bool v) := by rw [bvec_get h, e]
theorem aggL {l : List Value} : cellsL (.agg ⟨l⟩) = l := rfl
theorem MSub.refl : ∀ m : List (Nat × Obj), MSub m m
  | [] => .nil
  | (_, _) :: m => .keep rfl (MSub.refl m)

/-- a slice that came in, at a later world, and with another list of blocks that may be read -/
theorem At.satD {w W : World} {D : Nat → Prop} {mem : List (Nat × Obj)} {J : (Nat → Prop) → World → Prop} {A : Option Addr} {sz : Nat} {rows : List (List Value)} (h : At w A sz rows) (hD : ∀ a, A = some a → rows ≠ [] → D a.block)
    (hm : SatW w D J mem W) : At W A sz rows := fun i cs hi => by
  obtain ⟨b, o, hA, hc⟩ := h i cs hi
  exact ⟨b, o, hA, fun j v hj => hm.same.cell (hc j v hj) (hD ⟨b, o, none⟩ hA (fun e => by subst e; cases hi))⟩

section
variable {P : Program} {b : Frame} {k : List Item} {cs : List Frame} {a : Act} {w : World}
theorem stepR_scope {c : Code} : step P (lone (b.atR a (.code (.scope c) :: k)) cs w) = .next (lone (b.atR a (.code c :: .inScope c :: k)) cs w) :=
  step_lone_go (by simp [stepG, stepG.exec, Frame.atR])
theorem stepR_inScope {c : Code} : step P (lone (b.atR a (.inScope c :: k)) cs w) = .next (lone (b.atR a k) cs w) :=
  step_lone_go (by simp [stepG, stepG.exec, Frame.atR])
end

/-- a scope through which the run goes without a goto -/
theorem wpIn_scope {F : Fence} {n : Nat} {P : Program} {Q : Exit → Act → World → Prop} {a : Act} {w : World} {c : Code} (h : c.wpIn F n P (Exit.noGoto Q) a w) : (Code.scope c).wpIn F n P Q a w := by
  intro b k cs hro hb hr
  have h0 : (lone (b.atR a (.code (.scope c) :: k)) cs w).fenced P F := fenced_calm hb hr rfl
  obtain ⟨e, a₁, w₁, hq, harr⟩ := h b (.inScope c :: k) cs hro hb hr
  cases e with
  | normal => exact ⟨.normal, a₁, w₁, hq, .head h0 stepR_scope (StepsIn.trans harr (.one (fenced_calm hb hr rfl) stepR_inScope))⟩
  | exit id =>
    have hx : exitTo id (.inScope c :: k) = exitTo id k := by simp [exitTo]
    exact ⟨.exit id, a₁, w₁, hq, fun k' hk => .head h0 stepR_scope (harr.1 k' (by rw [hx]; exact hk)),
      fun hr' hk => let ⟨k₁, h1, h2⟩ := harr.2 hr' (by rw [hx]; exact hk); ⟨k₁, h1, .head h0 stepR_scope h2⟩⟩
  | goto l => exact hq.elim
  | ret => exact ⟨_, a₁, w₁, hq, .of_steps (.one h0 stepR_scope) harr⟩
  | panic ch => exact ⟨_, a₁, w₁, hq, .of_steps (.one h0 stepR_scope) harr⟩
  | outgrown => exact ⟨_, a₁, w₁, hq, .of_steps (.one h0 stepR_scope) harr⟩

section
variable {P : Program} {N : Nat} {c : Cx} {Q : Exit → Act → World → Prop} {env : List (Nat × Value)} {mem : List (Nat × Obj)}
theorem c_scope {x : Code} (k : RunC P N c x (Exit.noGoto Q) env mem) : RunC P N c (.scope x) Q env mem := .mk fun a W ha hw => wpIn_scope (k.run a W ha hw)
theorem x_scope (k : RunX N c Q .normal env mem) : RunX N c (Exit.noGoto Q) .normal env mem := .mk fun a W ha hw => k.run a W ha hw
theorem x_scope_ret (k : RunX N c Q .ret env mem) : RunX N c (Exit.noGoto Q) .ret env mem := .mk fun a W ha hw => k.run a W ha hw
theorem x_scope_exit {id : Nat} (k : RunX N c Q (.exit id) env mem) : RunX N c (Exit.noGoto Q) (.exit id) env mem := .mk fun a W ha hw => k.run a W ha hw

theorem SatW.perm {w0 : World} {D : Nat → Prop} {J : (Nat → Prop) → World → Prop} {mem mem' : List (Nat × Obj)} {W : World} (h : SatW w0 D J mem W) (hp : mem.Perm mem') : SatW w0 D J mem' W := by
  refine ⟨h.same, h.dom, (hp.map _).nodup_iff.1 h.nodup, fun p hm => h.own p (hp.mem_iff.2 hm), h.closed, ?_⟩
  have hk : keys mem' = keys mem := by
    funext b
    unfold keys
    exact propext ((hp.map _).mem_iff).symm
  rw [hk]; exact h.word
theorem x_perm {e : Exit} {mem' : List (Nat × Obj)} (hp : mem.Perm mem') (k : RunX N c Q e env mem') : RunX N c Q e env mem := .mk fun a W ha hm => k.run a W ha (hm.perm hp)
theorem x_sink4 {e : Exit} {x y1 y2 y3 y4 : Nat × Obj} {m : List (Nat × Obj)} (k : RunX N c Q e env (y1 :: y2 :: y3 :: y4 :: x :: m)) : RunX N c Q e env (x :: y1 :: y2 :: y3 :: y4 :: m) :=
  x_perm (List.perm_middle (l₁ := [y1, y2, y3, y4])).symm k
end
end Kin
end Go
