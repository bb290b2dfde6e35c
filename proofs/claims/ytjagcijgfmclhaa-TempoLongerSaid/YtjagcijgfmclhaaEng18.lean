/- The engine: panics that go through, deferred calls. Generic: no program is named here. -/
import Derived.Test.YtjagcijgfmclhaaEng17
import Derived.RecoverIn
set_option linter.unusedSectionVars false
set_option linter.unusedVariables false
set_option linter.unusedSimpArgs false
namespace Go
open Go.RowKit
namespace Kin
section
variable {P : Program} {N : Nat} {c : Cx} {Q : Exit → Act → World → Prop} {env : List (Nat × Value)} {mem : List (Nat × Obj)} {L l : List Oper} {ch : List PanicEntry}
  {ty : TypeId} {pos : String} {af : Array Edge} {g : Option (Nat × Bool)} {dd : Option Tmp}

/-! ## Panics -/
theorem x_then_panic {next : Act → World → Prop} (k : RunX N c Q (.panic ch) env mem) : RunX N c (Exit.then next Q) (.panic ch) env mem := .mk fun a W ha hw => k.run a W ha hw
theorem x_block_panic {id : Nat} (k : RunX N c Q (.panic ch) env mem) : RunX N c (Exit.inBlock id Q) (.panic ch) env mem := .mk fun a W ha hw => k.run a W ha hw
theorem x_scope_panic (k : RunX N c Q (.panic ch) env mem) : RunX N c (Exit.noGoto Q) (.panic ch) env mem := .mk fun a W ha hw => k.run a W ha hw
theorem x_panic {fn : Func} {R : Ending → World → Prop} (hds : c.ds = []) (hR : ∀ W, SatW c.w0 c.D c.J mem W → R (.panicked ch) W) : RunX N c (bodyPostK P fn R) (.panic ch) env mem := .mk fun a W ha hm => by
  show LeavesInM _ _ _ _ _ _ a.defers _ _
  rw [ha.defers, hds]; exact hR W hm
section
variable [Wide c.F]
/-- a call that ends in a panic -/
theorem r_callP {f : FuncId} [Ent P f] {args : List Operand} {ats : Array TypeId} {vs : List Value} (hw : wantB L env g = some true) (ha : evOps env args some = some vs)
    (hc : ∀ W, SatW c.w0 c.D c.J mem W → Calls P f ⟨vs⟩ W fun e W' => e = .panicked ch ∧ Below W.heap.size W W')
    (k : RunX N c Q (.panic ch) env mem) : RunL P N c L (⟨dd, .call ⟨.value (.func f), ⟨args⟩, ats⟩, ty, pos, af, g⟩ :: l) Q env mem :=
  l_run hw fun a W hA hm => by
    have h1 := hA.evals ha
    simp only [Option.some.injEq] at h1
    rw [semAt_plain _ rfl, p_call, h1]
    refine ⟨Wide.depth c.F c.n, (Wide.calls (F := c.F) (hc W hm)).mono ?_⟩
    rintro e W' ⟨rfl, hb⟩
    exact k.run _ _ hA (hm.later hb)
/-- a call that hands nothing back -/
theorem r_call0 {f : FuncId} [Ent P f] {args : List Operand} {ats : Array TypeId} {vs : List Value} {v : Value} (hw : wantB L env g = some true) (ha : evOps env args some = some vs)
    (hc : ∀ W, SatW c.w0 c.D c.J mem W → Calls P f ⟨vs⟩ W fun e W' => e = .returned v ∧ Below W.heap.size W W')
    (k : RunL P N c L l Q env mem) : RunL P N c L (⟨none, .call ⟨.value (.func f), ⟨args⟩, ats⟩, ty, pos, af, g⟩ :: l) Q env mem :=
  l_run hw fun a W hA hm => by
    have h1 := hA.evals ha
    simp only [Option.some.injEq] at h1
    rw [semAt_plain _ rfl, p_call, h1]
    refine ⟨Wide.depth c.F c.n, (Wide.calls (F := c.F) (hc W hm)).mono ?_⟩
    rintro e W' ⟨rfl, hb⟩
    exact k.run _ _ hA (hm.later hb)
theorem run_panic {t : TypeId} {u : Value} (W : World) : (Instr.panic (.iface t u)).run P W = .halt (.panic (.iface t u)) W := by
  unfold Instr.panic
  rfl
theorem l_panic {x : Operand} {t : TypeId} {u : Value} (hw : wantB L env g = some true) (hx : evOp env x = some (.iface t u)) (k : RunX N c Q (.panic [{ v := .iface t u, recovered := false }]) env mem) :
    RunL P N c L (⟨dd, .panic x, ty, pos, af, g⟩ :: l) Q env mem :=
  l_run hw fun a W hA hm => by
    rw [semAt_plain _ rfl]
    have h1 : (execOp a.eval ⟨dd, .panic x, ty, pos, af, g⟩).run P W = .halt (.panic (.iface t u)) W := by
      simp only [execOp, hA.eval hx, Sem.run_bind, run_panic]; rfl
    rw [h1]
    exact k.run _ _ hA hm
/-- a call is deferred -/
theorem l_defer (hF : c.F.round = none) {f : FuncId} {x : Operand} {args : List Operand} {ats : Array TypeId} {vs fs cs : List Value} (hw : wantB L env g = some true) (hx : evOp env x = some (.func (.func f) ⟨fs⟩ ⟨cs⟩)) (ha : evOps env args some = some vs)
    (k : RunL P N { c with ds := { target := .fn (.func f) ⟨cs⟩, args := ⟨fs ++ vs⟩ } :: c.ds } L l Q env mem) : RunL P N c L (⟨none, .defer ⟨.value x, ⟨args⟩, ats⟩, ty, pos, af, g⟩ :: l) Q env mem :=
  l_run hw fun a W hA hm => by
    have h1 := hA.evals ha
    simp only [Option.some.injEq] at h1
    have h3 : (⟨none, .defer ⟨.value x, ⟨args⟩, ats⟩, ty, pos, af, g⟩ : Oper).semAt c.F.round a.eval = execOp a.eval ⟨none, .defer ⟨.value x, ⟨args⟩, ats⟩, ty, pos, af, g⟩ := by rw [hF]; rfl
    rw [h3]
    have h2 : (execOp a.eval ⟨none, .defer ⟨.value x, ⟨args⟩, ats⟩, ty, pos, af, g⟩).run P W = .ok (.defer { target := .fn (.func f) ⟨cs⟩, args := ⟨fs ++ vs⟩ }) W := by
      simp only [execOp, resolve, hA.eval hx, Deferred.ofValue, Sem.run_bind, List.map_toArray, h1]
      simp [Sem.run, pure]
    rw [h2]
    exact k.run _ _ ⟨hA.size, by rw [← hA.defers]; rfl, hA.env⟩ hm
end
end

/-! ## The door: one deferred call is made -/
section
variable {P : Program} {N : Nat} {c : Cx} {env : List (Nat × Value)} {mem : List (Nat × Obj)} {tt : List (TypeId × TI)}
/-- what the deferred call must do: the frame below goes on as a return -/
def Door (P : Program) (c : Cx) (mem : List (Nat × Obj)) (f : FuncId) (ws : Array Value) (u : FrameMode) {ι : Type} (mem' : ι → List (Nat × Obj)) : Prop :=
  ∀ W, SatW c.w0 c.D c.J mem W → CallsDIn Fence.wide 0 P f ws u W fun e u' W' => (∃ r, e = .returned r) ∧ settle u' = .returning ∧ ∃ i, SatW c.w0 c.D c.J (mem' i) W'
theorem door_leaves [T : TT P tt] {fn : Func} {rs : List ResultVar} {ι : Type} {vs : ι → List Value} {v : ι → Value} {mem' : ι → List (Nat × Obj)} {R : Ending → World → Prop} {fv : Fn} {cap args' : Array Value} {f : FuncId} {ws : Array Value} {u : FrameMode} (hu : u ≠ .run)
    (hds : c.ds = [{ target := .fn fv cap, args := args' }]) (hi : ∀ W, (invoke (.fn fv cap) args').run P W = .ok (.enter f ws) W) (hc : Door P c mem f ws u mem')
    (hr : fn.results = ⟨rs⟩) (h : ∀ i, Res tt env (mem' i) rs (vs i)) (hv : ∀ i, tupO (vs i) = some (v i)) (hR : ∀ i W, SatW c.w0 c.D c.J (mem' i) W → R (.returned (v i)) W) {a : Act} {W : World} (ha : SatA N c.ds env a) (hm : SatW c.w0 c.D c.J mem W) :
    LeavesInM Fence.wide 0 P fn a.tmps R a.defers u W := by
  rw [ha.defers, hds]
  refine ⟨hu, .inr ⟨(fun h => by cases h), fv, cap, f, ws, rfl, hi W, (fun _ _ => trivial), ?_⟩⟩
  have h1 := hc W hm
  refine ⟨h1.1, fun c₀ cs h2 h3 => ?_⟩
  obtain ⟨e, u', w', fr, ⟨⟨r, rfl⟩, hs, i, hW⟩, h5⟩ := h1.2 c₀ cs h2 h3
  refine ⟨.returned r, u', w', fr, ?_, h5⟩
  show LeavesInM _ _ _ _ _ _ [] (settle u') w'
  rw [hs]
  refine ⟨v i, ?_, hR i w' hW⟩
  rw [← tupO_eq (hv i)]
  exact results_run hr (h i) ha hW
theorem x_ret_d [T : TT P tt] {fn : Func} {rs : List ResultVar} {ι : Type} {vs : ι → List Value} {v : ι → Value} {mem' : ι → List (Nat × Obj)} {R : Ending → World → Prop} {fv : Fn} {cap args' : Array Value} {f : FuncId} {ws : Array Value}
    (hds : c.ds = [{ target := .fn fv cap, args := args' }]) (hi : ∀ W, (invoke (.fn fv cap) args').run P W = .ok (.enter f ws) W) (hc : Door P c mem f ws .returning mem')
    (hr : fn.results = ⟨rs⟩) (h : ∀ i, Res tt env (mem' i) rs (vs i)) (hv : ∀ i, tupO (vs i) = some (v i)) (hR : ∀ i W, SatW c.w0 c.D c.J (mem' i) W → R (.returned (v i)) W) : RunX N c (bodyPostK P fn R) .ret env mem := .mk fun a W ha hm =>
  door_leaves (by intro h; cases h) hds hi hc hr h hv hR ha hm
theorem x_panic_d [T : TT P tt] {fn : Func} {rs : List ResultVar} {ι : Type} {vs : ι → List Value} {v : ι → Value} {mem' : ι → List (Nat × Obj)} {R : Ending → World → Prop} {fv : Fn} {cap args' : Array Value} {f : FuncId} {ws : Array Value} {ch : List PanicEntry}
    (hds : c.ds = [{ target := .fn fv cap, args := args' }]) (hi : ∀ W, (invoke (.fn fv cap) args').run P W = .ok (.enter f ws) W) (hc : Door P c mem f ws (.panicking ch) mem')
    (hr : fn.results = ⟨rs⟩) (h : ∀ i, Res tt env (mem' i) rs (vs i)) (hv : ∀ i, tupO (vs i) = some (v i)) (hR : ∀ i W, SatW c.w0 c.D c.J (mem' i) W → R (.returned (v i)) W) : RunX N c (bodyPostK P fn R) (.panic ch) env mem := .mk fun a W ha hm =>
  door_leaves (by intro h; cases h) hds hi hc hr h hv hR ha hm
end
/-! ## Sums by a fact -/
section
variable {P : Program} {N : Nat} {c : Cx} [Wide c.F] {env : List (Nat × Value)} {mem : List (Nat × Obj)} {ty : TypeId} {pos : String} {af : Array Edge} {g : Option (Nat × Bool)} {dd : Option Tmp}
theorem v_subQ {t t' : TypeId} {x y : Operand} {m n q : Int} (hx : evOp env x = some (.int .i64 m)) (hy : evOp env y = some (.int .i64 n)) (hq : m - n = q) (h1 : -9223372036854775808 ≤ q) (h2 : q ≤ 9223372036854775807) :
    OpVal P N c env mem ⟨dd, .binOp .sub t x y t', ty, pos, af, g⟩ (.int .i64 q) := by subst hq; exact v_sub hx hy h1 h2
theorem v_addQ {t t' : TypeId} {x y : Operand} {m n q : Int} (hx : evOp env x = some (.int .i64 m)) (hy : evOp env y = some (.int .i64 n)) (hq : m + n = q) (h1 : -9223372036854775808 ≤ q) (h2 : q ≤ 9223372036854775807) :
    OpVal P N c env mem ⟨dd, .binOp .add t x y t', ty, pos, af, g⟩ (.int .i64 q) := by subst hq; exact v_add hx hy h1 h2
end
end Kin
end Go
