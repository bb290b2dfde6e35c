/- The engine: quotients of numbers with a sign, given by a fact of the context; conversions to int. Generic: no program is named here. -/
import Derived.Test.YtjagcijgfmclhaaEng15
set_option linter.unusedSectionVars false
set_option linter.unusedVariables false
set_option linter.unusedSimpArgs false
namespace Go
open Go.RowKit
namespace Kin
section
variable {P : Program} {N : Nat} {c : Cx} {env : List (Nat × Value)} {mem : List (Nat × Obj)} {tt : List (TypeId × TI)} {ty : TypeId} {pos : String} {af : Array Edge} {g : Option (Nat × Bool)} {dd : Option Tmp} {t t' : TypeId} {x y : Operand}
theorem v_quoA [Wide c.F] {m n q : Int} {kd : IntKind} (hx : evOp env x = some (.int kd m)) (hy : evOp env y = some (.int kd n)) (h2 : n ≠ 0) (hq : kd.wrap (m.tdiv n) = q) :
    OpVal P N c env mem ⟨dd, .binOp .quo t x y t', ty, pos, af, g⟩ (.int kd q) :=
  hq ▸ v_quo' hx hy h2
theorem v_iconv [Wide c.F] [T : TT P tt] {src dst : TypeId} {ti : TI} {sz bt : Nat} {z : Value} {k : IntKind} {m : Int} (h1 : look tt src = some ti) (h2 : look tt dst = some ⟨.int .i64, sz, bt, z⟩) (hx : evOp env x = some (.int k m)) (l1 : -9223372036854775808 ≤ m) (l2 : m ≤ 9223372036854775807) :
    OpVal P N c env mem ⟨dd, .convert src dst x, ty, pos, af, g⟩ (.int .i64 m) := by
  have h : pureEval tt env (.convert src dst x) = some (.int .i64 (IntKind.i64.wrap m)) := by
    show (match look tt src with | some _ => _ | none => _) = _
    rw [h1]
    show (match look tt dst with | _ => _) = _
    rw [h2]
    show (match evOp env x with | _ => _) = _
    rw [hx]
  rw [wrap_i64 l1 l2] at h
  exact pureEval_ok h
end
end Kin
end Go
