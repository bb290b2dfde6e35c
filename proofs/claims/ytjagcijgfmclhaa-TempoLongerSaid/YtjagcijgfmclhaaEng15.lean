/- The engine: numbers of 64 bits without a sign, as natural numbers: sums, products, quotients, shifts, bits. Generic: no program is named here. -/
import Derived.Test.YtjagcijgfmclhaaEng14
import Derived.Laws.Bits64b
set_option linter.unusedSectionVars false
set_option linter.unusedVariables false
set_option linter.unusedSimpArgs false
namespace Go
open Go.RowKit
namespace Kin
section
variable {P : Program} {N : Nat} {c : Cx} {env : List (Nat × Value)} {mem : List (Nat × Obj)} {tt : List (TypeId × TI)} {ty : TypeId} {pos : String} {af : Array Edge} {g : Option (Nat × Bool)} {dd : Option Tmp} {t t' : TypeId} {x y : Operand} {m n : Nat}
theorem wrapU {n : Int} (h0 : 0 ≤ n) (h1 : n < 18446744073709551616) : IntKind.u64.wrap n = n := by rw [IntKind.wrap_u64]; omega
theorem v_uquo (hx : evOp env x = some (.int .u64 m)) (hy : evOp env y = some (.int .u64 n)) (h1 : m < 18446744073709551616) (h2 : 0 < n) : OpVal P N c env mem ⟨dd, .binOp .quo t x y t', ty, pos, af, g⟩ (.int .u64 ((m / n : Nat) : Int)) :=
  ⟨rfl, fun a W ha _ => by
    have h3 : m / n ≤ m := Nat.div_le_self m n
    rw [p_quo (ha.eval hx) (ha.eval hy) (by omega), ← Int.ofNat_tdiv]
    generalize m / n = q at *
    rw [wrapU (by omega) (by omega)]⟩
theorem v_urem (hx : evOp env x = some (.int .u64 m)) (hy : evOp env y = some (.int .u64 n)) (h2 : 0 < n) : OpVal P N c env mem ⟨dd, .binOp .rem t x y t', ty, pos, af, g⟩ (.int .u64 ((m % n : Nat) : Int)) :=
  ⟨rfl, fun a W ha _ => by rw [p_rem (ha.eval hx) (ha.eval hy) (by omega), ← Int.ofNat_tmod]⟩
theorem v_umul (hx : evOp env x = some (.int .u64 m)) (hy : evOp env y = some (.int .u64 n)) : OpVal P N c env mem ⟨dd, .binOp .mul t x y t', ty, pos, af, g⟩ (.int .u64 ((m * n % 18446744073709551616 : Nat) : Int)) :=
  ⟨rfl, fun a W ha _ => by
    rw [p_binInt (ha.eval hx) (ha.eval hy) (v := .int .u64 (IntKind.u64.wrap ((m : Int) * n))) rfl, ← Int.natCast_mul, IntKind.wrap_u64]; congr 3⟩
theorem v_uadd (hx : evOp env x = some (.int .u64 m)) (hy : evOp env y = some (.int .u64 n)) : OpVal P N c env mem ⟨dd, .binOp .add t x y t', ty, pos, af, g⟩ (.int .u64 (((m + n) % 18446744073709551616 : Nat) : Int)) :=
  ⟨rfl, fun a W ha _ => by
    rw [p_binInt (ha.eval hx) (ha.eval hy) (v := .int .u64 (IntKind.u64.wrap ((m : Int) + n))) rfl, ← Int.natCast_add, IntKind.wrap_u64]; congr 3⟩
theorem v_usub (hx : evOp env x = some (.int .u64 m)) (hy : evOp env y = some (.int .u64 n)) : OpVal P N c env mem ⟨dd, .binOp .sub t x y t', ty, pos, af, g⟩ (.int .u64 (((m : Int) - n) % 18446744073709551616)) :=
  ⟨rfl, fun a W ha _ => by
    rw [p_binInt (ha.eval hx) (ha.eval hy) (v := .int .u64 (IntKind.u64.wrap ((m : Int) - n))) rfl, IntKind.wrap_u64]⟩
theorem v_ushl {k' : IntKind} (hx : evOp env x = some (.int .u64 m)) (hy : evOp env y = some (.int k' n)) (h : n ≤ 64) : OpVal P N c env mem ⟨dd, .binOp .shl t x y t', ty, pos, af, g⟩ (.int .u64 ((m * 2 ^ n % 18446744073709551616 : Nat) : Int)) :=
  ⟨rfl, fun a W ha _ => by
    have hmin : min n IntKind.u64.bits = n := by show min n 64 = n; omega
    have : (execOp a.eval ⟨dd, .binOp .shl t x y t', ty, pos, af, g⟩).run P W = .ok (.value (.int .u64 (IntKind.u64.wrap ((m : Int) * 2 ^ n)))) W := by
      simp [execOp, ha.eval hx, ha.eval hy, eqGuard, binOp, Op.shift, hmin, Sem.run, pure, bind, Sem.bind]
    rw [this, IntKind.wrap_u64]
    congr 3⟩
theorem v_ushr {k' : IntKind} (hx : evOp env x = some (.int .u64 m)) (hy : evOp env y = some (.int k' n)) (h : n ≤ 64) : OpVal P N c env mem ⟨dd, .binOp .shr t x y t', ty, pos, af, g⟩ (.int .u64 ((m / 2 ^ n : Nat) : Int)) :=
  ⟨rfl, fun a W ha _ => by
    have hmin : min n IntKind.u64.bits = n := by show min n 64 = n; omega
    have : (execOp a.eval ⟨dd, .binOp .shr t x y t', ty, pos, af, g⟩).run P W = .ok (.value (.int .u64 ((m : Int) / (2 ^ n)))) W := by
      simp [execOp, ha.eval hx, ha.eval hy, eqGuard, binOp, Op.shift, hmin, Sem.run, pure, bind, Sem.bind]
    rw [this]
    congr 3⟩
theorem v_uand (hx : evOp env x = some (.int .u64 m)) (hy : evOp env y = some (.int .u64 n)) (h1 : m < 18446744073709551616) (h2 : n < 18446744073709551616) : OpVal P N c env mem ⟨dd, .binOp .and t x y t', ty, pos, af, g⟩ (.int .u64 ((m &&& n : Nat) : Int)) :=
  ⟨rfl, fun a W ha _ => by
    have : (execOp a.eval ⟨dd, .binOp .and t x y t', ty, pos, af, g⟩).run P W = .ok (.value (.int .u64 (bits .and .u64 (m : Int) (n : Int)))) W := by
      simp only [execOp, ha.eval hx, ha.eval hy, eqGuard, binOp]; rfl
    rw [this, bits_and_u64_nat m n h1 h2]⟩
theorem v_uor (hx : evOp env x = some (.int .u64 m)) (hy : evOp env y = some (.int .u64 n)) (h1 : m < 18446744073709551616) (h2 : n < 18446744073709551616) : OpVal P N c env mem ⟨dd, .binOp .or t x y t', ty, pos, af, g⟩ (.int .u64 ((m ||| n : Nat) : Int)) :=
  ⟨rfl, fun a W ha _ => by
    have : (execOp a.eval ⟨dd, .binOp .or t x y t', ty, pos, af, g⟩).run P W = .ok (.value (.int .u64 (bits .or .u64 (m : Int) (n : Int)))) W := by
      simp only [execOp, ha.eval hx, ha.eval hy, eqGuard, binOp]; rfl
    rw [this, bits_or_u64_nat m n h1 h2]⟩
/-- with constants -/
theorem v_ushr32 {k' : IntKind} (hx : evOp env x = some (.int .u64 m)) (hy : evOp env y = some (.int k' 32)) : OpVal P N c env mem ⟨dd, .binOp .shr t x y t', ty, pos, af, g⟩ (.int .u64 ((m / 4294967296 : Nat) : Int)) :=
  v_ushr (n := 32) hx hy (by decide)
theorem v_uand32 (hx : evOp env x = some (.int .u64 m)) (hy : evOp env y = some (.int .u64 4294967295)) (h1 : m < 18446744073709551616) : OpVal P N c env mem ⟨dd, .binOp .and t x y t', ty, pos, af, g⟩ (.int .u64 ((m % 4294967296 : Nat) : Int)) := by
  have h := v_uand (P := P) (N := N) (c := c) (mem := mem) (ty := ty) (pos := pos) (af := af) (g := g) (dd := dd) (t := t) (t' := t') (n := 4294967295) hx hy h1 (by decide)
  rw [Nat.and_two_pow_sub_one_eq_mod m 32] at h
  exact h
theorem v_umul32 (hx : evOp env x = some (.int .u64 m)) (hy : evOp env y = some (.int .u64 4294967296)) : OpVal P N c env mem ⟨dd, .binOp .mul t x y t', ty, pos, af, g⟩ (.int .u64 ((m * 4294967296 % 18446744073709551616 : Nat) : Int)) :=
  v_umul (n := 4294967296) hx hy
theorem v_umul32l (hx : evOp env x = some (.int .u64 4294967296)) (hy : evOp env y = some (.int .u64 m)) : OpVal P N c env mem ⟨dd, .binOp .mul t x y t', ty, pos, af, g⟩ (.int .u64 ((4294967296 * m % 18446744073709551616 : Nat) : Int)) :=
  v_umul (m := 4294967296) hx hy
theorem v_usub64 (hx : evOp env x = some (.int .u64 64)) (hy : evOp env y = some (.int .u64 m)) (h : m ≤ 64) : OpVal P N c env mem ⟨dd, .binOp .sub t x y t', ty, pos, af, g⟩ (.int .u64 ((64 - m : Nat) : Int)) := by
  have h2 := v_usub (P := P) (N := N) (c := c) (mem := mem) (ty := ty) (pos := pos) (af := af) (g := g) (dd := dd) (t := t) (t' := t') (m := 64) hx hy
  have e : (((64 : Nat) : Int) - (m : Int)) % 18446744073709551616 = ((64 - m : Nat) : Int) := by omega
  rw [e] at h2
  exact h2
theorem v_uconv [Wide c.F] [T : TT P tt] {src dst : TypeId} {ti : TI} {sz bt : Nat} {z : Value} {k : IntKind} (h1 : look tt src = some ti) (h2 : look tt dst = some ⟨.int .u64, sz, bt, z⟩) (hx : evOp env x = some (.int k m)) (hm : m < 18446744073709551616) :
    OpVal P N c env mem ⟨dd, .convert src dst x, ty, pos, af, g⟩ (.int .u64 (m : Int)) := by
  have h : pureEval tt env (.convert src dst x) = some (.int .u64 (IntKind.u64.wrap (m : Int))) := by
    show (match look tt src with | some _ => _ | none => _) = _
    rw [h1]
    show (match look tt dst with | _ => _) = _
    rw [h2]
    show (match evOp env x with | _ => _) = _
    rw [hx]
  rw [wrapU (by omega) (by omega)] at h
  exact pureEval_ok h
end
end Kin
end Go
