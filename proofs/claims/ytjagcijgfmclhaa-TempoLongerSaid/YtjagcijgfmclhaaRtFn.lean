/- What the functions of ratio compute, as plain functions on integers. No program. -/
import Derived.WalkKit
set_option linter.unusedSectionVars false
set_option linter.unusedVariables false
set_option linter.unusedSimpArgs false
namespace Go.Proofs
namespace R12
/-- the denominator, the numerator and the error of Make -/
def mkG (n d : Int) : Nat := Nat.gcd n.natAbs d.natAbs
def mkBig (n d : Int) : Bool := decide (1073741824 < n.natAbs / mkG n d ∨ 1073741824 < d.natAbs / mkG n d)
def mkE (n d : Int) : Int := if d = 0 then 120 else if mkBig n d then 2 else 0
def mkN (n d : Int) : Int := if d = 0 then 0 else if mkBig n d then 0 else if (decide (n < 0)) != (decide (d < 0)) then -((n.natAbs / mkG n d : Nat) : Int) else ((n.natAbs / mkG n d : Nat) : Int)
def mkD (n d : Int) : Int := if d = 0 then 0 else if mkBig n d then 0 else ((d.natAbs / mkG n d : Nat) : Int)
theorem mkG_pos {n d : Int} (h : d ≠ 0) : 0 < mkG n d := Nat.gcd_pos_of_pos_right _ (by omega)
def okB (n d : Int) : Bool := decide (1 ≤ d ∧ d ≤ 1073741824 ∧ -1073741824 ≤ n ∧ n ≤ 1073741824 ∧ Nat.gcd n.natAbs d.natAbs = 1)
theorem okB_iff {n d : Int} : okB n d = true ↔ 1 ≤ d ∧ d ≤ 1073741824 ∧ -1073741824 ≤ n ∧ n ≤ 1073741824 ∧ Nat.gcd n.natAbs d.natAbs = 1 := by simp [okB]
theorem mul_bd {a b : Int} {A B : Nat} (ha : a.natAbs ≤ A) (hb : b.natAbs ≤ B) : -((A * B : Nat) : Int) ≤ a * b ∧ a * b ≤ ((A * B : Nat) : Int) := by
  have h : (a * b).natAbs ≤ A * B := by rw [Int.natAbs_mul]; exact Nat.mul_le_mul ha hb
  omega
theorem mul30 {a b : Int} (h1 : -1073741824 ≤ a) (h2 : a ≤ 1073741824) (h3 : -1073741824 ≤ b) (h4 : b ≤ 1073741824) : -1152921504606846976 ≤ a * b ∧ a * b ≤ 1152921504606846976 := by
  have := mul_bd (a := a) (b := b) (A := 1073741824) (B := 1073741824) (by omega) (by omega)
  simpa using this
theorem tmod_bd (n d : Int) (h : 1 ≤ d) : -d < n.tmod d ∧ n.tmod d < d := by
  have h1 : (n.tmod d).natAbs = n.natAbs % d.natAbs := Int.natAbs_tmod n d
  have h2 : n.natAbs % d.natAbs < d.natAbs := Nat.mod_lt _ (by omega)
  omega
theorem down_eq (n d : Int) (h : 1 ≤ d) : (n - (n.tmod d + d).tmod d).tdiv d = n / d := by
  have ⟨h1, h2⟩ := tmod_bd n d h
  have e1 : (n.tmod d + d).tmod d = n % d := by
    rw [Int.tmod_eq_emod_of_nonneg (by omega), Int.add_emod_right, Int.tmod_def, Int.sub_mul_emod_self_left]
  rw [e1]
  have e2 : n - n % d = d * (n / d) := by have := Int.mul_ediv_add_emod n d; omega
  rw [e2, Int.mul_tdiv_cancel_left _ (by omega)]
theorem floor_neg (n d : Int) (h : 1 ≤ d) (hr : n.tmod d < 0) : n.tdiv d - 1 = n / d := by
  have ⟨h1, h2⟩ := tmod_bd n d h
  have h3 := Int.mul_tdiv_add_tmod n d
  have := (Int.ediv_emod_unique (a := n) (b := d) (q := n.tdiv d - 1) (r := n.tmod d + d) (by omega)).2 ⟨by rw [Int.mul_sub, Int.mul_one]; omega, by omega, by omega⟩
  exact this.1.symm
theorem floor_pos (n d : Int) (h : 1 ≤ d) (hr : 0 ≤ n.tmod d) : n.tdiv d = n / d := by
  have ⟨h1, h2⟩ := tmod_bd n d h
  have h3 := Int.mul_tdiv_add_tmod n d
  have := (Int.ediv_emod_unique (a := n) (b := d) (q := n.tdiv d) (r := n.tmod d) (by omega)).2 ⟨by omega, by omega, by omega⟩
  exact this.1.symm
theorem tdiv_bd (n d : Int) (_h : 1 ≤ d) (h1 : -1152921504606846976 ≤ n) (h2 : n ≤ 1152921504606846976) : -1152921504606846976 ≤ n.tdiv d ∧ n.tdiv d ≤ 1152921504606846976 := by
  have h3 : (n.tdiv d).natAbs = n.natAbs / d.natAbs := Int.natAbs_tdiv n d
  have h4 : n.natAbs / d.natAbs ≤ n.natAbs := Nat.div_le_self _ _
  omega
end R12
end Go.Proofs
