/- The engine: values of an interface, deferred calls that recover. Generic: no program is named here. -/
import Derived.Test.YtjagcijgfmclhaaEng18
set_option linter.unusedSectionVars false
set_option linter.unusedVariables false
set_option linter.unusedSimpArgs false
namespace Go
open Go.RowKit
namespace Kin
section
variable {P : Program} {N : Nat} {c : Cx} {Q : Exit → Act → World → Prop} {env : List (Nat × Value)} {mem : List (Nat × Obj)} {L l : List Oper} {tt : List (TypeId × TI)} [Wide c.F]
  {ty : TypeId} {pos : String} {af : Array Edge} {g : Option (Nat × Bool)} {dd : Option Tmp}

/-! ## Interfaces -/
def concrete : TK → Bool
  | .other => false
  | _ => true
theorem v_iface [T : TT P tt] {t sz bt : Nat} {kd : TK} {z v : Value} {x : Operand} (ht : look tt t = some ⟨kd, sz, bt, z⟩) (hk : concrete kd = true) (hx : evOp env x = some v) :
    OpVal P N c env mem ⟨dd, .makeInterface t x, ty, pos, af, g⟩ (.iface t v) := by
  have h1 := (TT.look (P := P) ht).1
  refine ⟨rfl, fun a W ha _ => ?_⟩
  simp only [execOp, ha.eval hx]
  cases kd with
  | other => cases hk
  | struct fs => obtain ⟨f, h1, _⟩ := h1; simp only [Instr.makeInterface, Sem.run_bind, run_und h1, Result.andThen_ok]; rfl
  | _ => simp only [TKOk] at h1; simp only [Instr.makeInterface, Sem.run_bind, run_und h1, Result.andThen_ok]; rfl
/-- a value of an interface compared with nil -/
theorem v_eqNil {t t' : TypeId} {ms : Array (String × TypeId)} (hu : P.underlying t = some (.interface ms)) {x : Operand} (hx : evOp env x = some .nilIface) : OpVal P N c env mem ⟨dd, .binOp .eql t x (.const .nilIface) t', ty, pos, af, g⟩ (.bool true) := by
  refine ⟨rfl, fun a W ha _ => ?_⟩
  have h1 : (eqGuard .eql t x (.const .nilIface) .nilIface .nilIface).run P W = .ok () W := by
    unfold eqGuard; simp [Sem.run, pure]
  have h2 : (Op.equal t .nilIface .nilIface).run P W = .ok true W := by
    show (Op.equalIn (9999 + 1) t .nilIface .nilIface).run P W = _
    rw [Op.equalIn]
    simp only [Sem.run_bind, run_und hu, Result.andThen_ok]; rfl
  have h3 : a.eval (.const .nilIface) = .nilIface := rfl
  simp only [execOp, ha.eval hx, h3, Sem.run_bind, h1, Result.andThen_ok, binOp, h2]
  rfl
theorem v_eqNil_no {t t' u : TypeId} {ms : Array (String × TypeId)} {v : Value} (hu : P.underlying t = some (.interface ms)) {x : Operand} (hx : evOp env x = some (.iface u v)) : OpVal P N c env mem ⟨dd, .binOp .eql t x (.const .nilIface) t', ty, pos, af, g⟩ (.bool false) := by
  refine ⟨rfl, fun a W ha _ => ?_⟩
  have h1 : (eqGuard .eql t x (.const .nilIface) (.iface u v) .nilIface).run P W = .ok () W := by
    unfold eqGuard; simp [Sem.run, pure]
  have h2 : (Op.equal t (.iface u v) .nilIface).run P W = .ok false W := by
    show (Op.equalIn (9999 + 1) t (.iface u v) .nilIface).run P W = _
    rw [Op.equalIn]
    simp only [Sem.run_bind, run_und hu, Result.andThen_ok]; rfl
  have h3 : a.eval (.const .nilIface) = .nilIface := rfl
  simp only [execOp, ha.eval hx, h3, Sem.run_bind, h1, Result.andThen_ok, binOp, h2]
  rfl
theorem v_assertOk [T : TT P tt] {t s sz bt : Nat} {kd : TK} {z v : Value} {x : Operand} (ht : look tt t = some ⟨kd, sz, bt, z⟩) (hk : concrete kd = true) (hx : evOp env x = some (.iface t v)) :
    OpVal P N c env mem ⟨dd, .typeAssert x s t true, ty, pos, af, g⟩ (.tuple ⟨[v, .bool true]⟩) := by
  have h1 := (TT.look (P := P) ht).1
  refine ⟨rfl, fun a W ha _ => ?_⟩
  simp only [execOp, ha.eval hx]
  cases kd with
  | other => cases hk
  | struct fs => obtain ⟨f, h1, _⟩ := h1; simp only [Instr.typeAssert, Sem.run_bind, run_und h1, Result.andThen_ok, if_true]; rfl
  | _ => simp only [TKOk] at h1; simp only [Instr.typeAssert, Sem.run_bind, run_und h1, Result.andThen_ok, if_true]; rfl
end

/-! ## Tests that are opposites, split -/
section
variable {P : Program} {N : Nat} {c : Cx} {Q : Exit → Act → World → Prop} {env : List (Nat × Value)} {mem : List (Nat × Obj)} {L l : List Oper} [Wide c.F] {p : Prop} [Decidable p]
theorem l_notS {o : Oper} {j d : Nat} {w : Bool} {o' : Oper} (hg : o.guard = some (j, w)) (hj : nth L j = some o') (hd : o'.dst = some d) (hb : look env d = some (.bool (!decide p)))
    (k1 : ¬ p → RunL P N c L (o :: l) Q ((d, .bool true) :: env) mem) (k2 : p → RunL P N c L (o :: l) Q ((d, .bool false) :: env) mem) : RunL P N c L (o :: l) Q env mem := by
  by_cases h : p
  · exact l_bool hg hj hd hb (by rw [decide_eq_true h]; rfl) (k2 h)
  · exact l_bool hg hj hd hb (by rw [decide_eq_false h]; rfl) (k1 h)
theorem q_notS {o : Oper} {j d : Nat} {w : Bool} {o' : Oper} (hg : o.guard = some (j, w)) (hj : nth L j = some o') (hd : o'.dst = some d) (hb : look env d = some (.bool (!decide p)))
    (k1 : ¬ p → RunQ P N c L (o :: l) Q ((d, .bool true) :: env) mem) (k2 : p → RunQ P N c L (o :: l) Q ((d, .bool false) :: env) mem) : RunQ P N c L (o :: l) Q env mem := by
  by_cases h : p
  · exact q_bool hg hj hd hb (by rw [decide_eq_true h]; rfl) (k2 h)
  · exact q_bool hg hj hd hb (by rw [decide_eq_false h]; rfl) (k1 h)
theorem c_notS {t : Operand} {x y : Code} (h : evOp env t = some (.bool (!decide p))) (k1 : ¬ p → RunC P N c x Q env mem) (k2 : p → RunC P N c y Q env mem) : RunC P N c (.cond t x y) Q env mem := by
  by_cases hp : p
  · exact c_false (h.trans (by rw [decide_eq_true hp]; rfl)) (k2 hp)
  · exact c_true (h.trans (by rw [decide_eq_false hp]; rfl)) (k1 hp)
end

/-! ## A deferred call that recovers -/
def DQ (P : Program) (fn : Func) (u' : FrameMode) (R : Ending → FrameMode → World → Prop) : Exit → Act → World → Prop
  | .normal, a, w | .ret, a, w => a.defers = [] ∧ ∃ v, (results fn a.tmps).run P w = .ok v w ∧ R (.returned v) u' w
  | _, _, _ => False
/-- what recover finds, and what it leaves -/
inductive Recov : FrameMode → Value → FrameMode → Prop
  | none : Recov .returning .nilIface .returning
  | some (v : Value) (older : List PanicEntry) : Recov (.panicking ({ v, recovered := false } :: older)) v (.panicking ({ v, recovered := true } :: older))
section
variable {P : Program} {N : Nat} {env : List (Nat × Value)} {mem : List (Nat × Obj)} {tt : List (TypeId × TI)}
theorem d_enter {f : FuncId} {fn : Func} {id d : Nat} {ats : Array TypeId} {ty : TypeId} {pos : String} {af : Array Edge} {rest : Code} {args : List Value} {u u' : FrameMode} {v : Value} {w0 w : World} {D : Nat → Prop} {J : (Nat → Prop) → World → Prop} {R : Ending → FrameMode → World → Prop}
    (hf : P.funcs[f]? = some fn) (hb : fn.body = some (.seq (.region id #[⟨some d, .call ⟨.builtin .recover, #[], ats⟩, ty, pos, af, none⟩] false) rest)) (hN : fn.ntmps = N)
    (hl : Nat.ble args.length N = true) (hd : Nat.blt d N = true) (he : enumK 0 args some = some env) (hm : SatW w0 D J mem w) (hu : Recov u v u')
    (k : RunC P N ⟨Fence.wide, 0, [], w0, D, J⟩ rest (DQ P fn u' R) ((d, v) :: env) mem) : CallsDIn Fence.wide 0 P f ⟨args⟩ u w R := by
  subst hN
  refine callsDIn_of_wpSIn hf hb trivial fun c₀ cs hc => ?_
  have ha : SatA fn.ntmps [] env { tmps := (⟨args⟩ : Array Value) ++ Array.replicate (fn.ntmps - (⟨args⟩ : Array Value).size) undef, defers := [] } := by
    obtain ⟨e, h1, h2⟩ := enumK_eq he
    simp only [Option.some.injEq] at h1
    subst h1
    have hl2 := Nat.le_of_ble_eq_true hl
    refine ⟨?_, rfl, fun s v hs => ?_⟩
    · simp only [Array.size_append, Array.size_replicate, List.size_toArray]; omega
    · obtain ⟨_, h3⟩ := h2 s v hs
      simp only [Nat.sub_zero] at h3
      have hlt := (List.getElem?_eq_some_iff.1 h3).1
      rw [Array.getElem?_append_left (by simpa using hlt)]
      simpa using h3
  have hk := k.run _ w (ha.put hd v) hm
  apply wpSIn_seq
  apply wpSIn_region
  have hrun : (execOp (Act.eval { tmps := (⟨args⟩ : Array Value) ++ Array.replicate (fn.ntmps - (⟨args⟩ : Array Value).size) undef, defers := [] }) ⟨some d, .call ⟨.builtin .recover, #[], ats⟩, ty, pos, af, none⟩).run P w = .ok .recover w := by
    simp only [execOp, resolve, Sem.run_bind]; rfl
  have hthen : ∀ a' cs', cs' = { c₀ with mode := u' } :: cs → rest.wpIn Fence.wide 0 P (DQ P fn u' R) a' w → rest.wpSIn Fence.wide 0 P (bodyPostS P fn c₀ cs R) a' cs' w := fun a' cs' e h => by
    subst e
    refine wpSIn_of_wpIn rfl (fun b k cs1 h1 h2 h3 => ?_)
    obtain ⟨e, a2, w2, hq, h4⟩ := h b k cs1 h1 h2 h3
    refine ⟨e, a2, w2, ?_, h4⟩
    cases e with
    | normal => obtain ⟨q1, v, q2, q3⟩ := hq; exact ⟨q1, u', rfl, v, q2, q3⟩
    | ret => obtain ⟨q1, v, q2, q3⟩ := hq; exact ⟨q1, u', rfl, v, q2, q3⟩
    | _ => exact hq.elim
  show wpOpsSIn _ _ _ _ _ [0] _ _ _
  unfold wpOpsSIn
  simp only [List.getElem?_toArray, List.getElem?_cons_zero]
  refine ⟨fun _ _ => trivial, ?_⟩
  rw [if_pos (by rfl)]
  rw [hrun]
  simp only
  cases hu with
  | none =>
    have hr : recoverD (c₀ :: cs) = none := by simp [recoverD, hc]
    rw [hr]
    simp only [wpOpsSIn, Exit.thenS]
    exact hthen _ _ (by cases c₀; simp_all) hk
  | some v older =>
    have hr : recoverD (c₀ :: cs) = some (v, { c₀ with mode := .panicking ({ v, recovered := true } :: older) } :: cs) := by simp [recoverD, hc]
    rw [hr]
    simp only [wpOpsSIn, Exit.thenS]
    exact hthen _ _ rfl hk
theorem x_door [T : TT P tt] {c : Cx} {fn : Func} {rs : List ResultVar} {vs : List Value} {v : Value} {u' : FrameMode} {R : Ending → FrameMode → World → Prop} (hds : c.ds = []) (hr : fn.results = ⟨rs⟩) (h : Res tt env mem rs vs) (hv : tupO vs = some v)
    (hR : ∀ W, SatW c.w0 c.D c.J mem W → R (.returned v) u' W) : RunX N c (DQ P fn u' R) .normal env mem := .mk fun a W ha hm => by
  obtain rfl := tupO_eq hv
  exact ⟨ha.defers.trans hds, _, results_run hr h ha hm, hR W hm⟩
theorem settle_recovered (v : Value) : settle (.panicking [{ v, recovered := true }]) = .returning := rfl
end
end Kin
end Go
