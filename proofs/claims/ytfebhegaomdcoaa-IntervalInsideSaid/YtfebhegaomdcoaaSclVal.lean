/- What Scale answers. No program. -/
import Derived.Test.YtfebhegaomdcoaaIvJ
import Derived.Test.YtfebhegaomdcoaaSclMath
import Derived.Test.YtfebhegaomdcoaaRtFn
set_option linter.unusedSectionVars false
set_option linter.unusedVariables false
set_option linter.unusedSimpArgs false
namespace Go.Proofs
open Go.RowKit Go.Kin Go.Kin.Iv
namespace R21

def scLo (a b N D : Int) : Int := min (fl a N D) (fl b N D)
def scHi (a b N D : Int) : Int := max (ce a N D) (ce b N D)
def scK (a b N D : Int) : Bool := vB a b && R12.okB N D
def scB (a b N D : Int) : Bool := scK a b N D && vB (scLo a b N D) (scHi a b N D)
def scL (a b N D : Int) : Int := if scB a b N D then scLo a b N D else 0
def scH (a b N D : Int) : Int := if scB a b N D then scHi a b N D else 0
def scE (a b N D : Int) : Int := if vB a b then (if R12.okB N D then (if vB (scLo a b N D) (scHi a b N D) then 0 else 2) else 120) else 210
def scV (a b N D : Int) : Value := .tuple ⟨[.agg ⟨rgE (scL a b N D) (scH a b N D)⟩, .int .i64 (scE a b N D)]⟩
theorem sc_bad {a b N D : Int} (h : vB a b = false) : scV a b N D = .tuple ⟨[.agg ⟨rgE 0 0⟩, .int .i64 210]⟩ := by unfold scV scL scH scE scB scK; rw [h]; rfl
theorem sc_rat {a b N D : Int} (h : vB a b = true) (h2 : R12.okB N D = false) : scV a b N D = .tuple ⟨[.agg ⟨rgE 0 0⟩, .int .i64 120]⟩ := by unfold scV scL scH scE scB scK; rw [h, h2]; rfl
theorem sc_ok {a b N D : Int} (h : vB a b = true) (h2 : R12.okB N D = true) : scV a b N D = rsV (scLo a b N D) (scHi a b N D) := by
  unfold scV scL scH scE scB scK; rw [h, h2]
  cases h3 : vB (scLo a b N D) (scHi a b N D) with
  | true => rw [rs_yes h3]; rfl
  | false => rw [rs_no h3]; rfl
/-- a quotient that is far beyond the limits -/
theorem sc_far {a b N D x : Int} (hD : 0 < D) (hx : x = a ∨ x = b) (h : 1099511627776 < ce x N D ∨ fl x N D < -1099511627776) : vB (scLo a b N D) (scHi a b N D) = false := by
  rw [vB_no]
  have h1 := fl_le_ce a N hD
  have h2 := fl_le_ce b N hD
  unfold scLo scHi
  rcases hx with rfl | rfl <;> omega
/-- the program's own test -/
def arO (x N : Int) (d : Nat) : Bool := decide (qa x N d ≤ 1099511627776)
theorem arO_no {a b N x : Int} {d : Nat} (hD : 0 < d) (hx : x = a ∨ x = b) (h : arO x N d = false) : vB (scLo a b N d) (scHi a b N d) = false := by
  have hq : ¬ qa x N d ≤ 1099511627776 := of_decide_eq_false h
  refine sc_far (by omega) hx ?_
  by_cases hs : x < 0 ↔ N < 0
  · obtain ⟨h1, h2⟩ := around_same (x := x) (N := N) hD hs
    left; rw [h2]; unfold up; split <;> omega
  · obtain ⟨h1, h2⟩ := around_other (x := x) (N := N) hD hs
    right; rw [h1]; unfold up; split <;> omega
def arL (x N : Int) (d : Nat) : Int := if arO x N d then fl x N d else 0
def arH (x N : Int) (d : Nat) : Int := if arO x N d then ce x N d else 0
def arV (x N : Int) (d : Nat) : Value := .tuple ⟨[.int .i64 (arL x N d), .int .i64 (arH x N d), .bool (arO x N d)]⟩
theorem ar_no {x N : Int} {d : Nat} (h : arO x N d = false) : arV x N d = .tuple ⟨[.int .i64 0, .int .i64 0, .bool false]⟩ := by unfold arV arL arH; rw [h]; rfl
theorem ar_yes {x N : Int} {d : Nat} (h : arO x N d = true) : arV x N d = .tuple ⟨[.int .i64 (fl x N d), .int .i64 (ce x N d), .bool true]⟩ := by unfold arV arL arH; rw [h]; rfl
theorem sc_hull {a b N D : Int} (hD : 0 < D) : mnL (fl a N D) [ce a N D, fl b N D, ce b N D] = scLo a b N D ∧ mxL (fl a N D) [ce a N D, fl b N D, ce b N D] = scHi a b N D := by
  have h1 := fl_le_ce a N hD
  have h2 := fl_le_ce b N hD
  simp only [mnL, mxL, List.foldl_cons, List.foldl_nil, scLo, scHi]
  omega
/-- the reference's own test -/
def rO (x N D : Int) : Bool := decide (N = 0 ∨ (x / D).natAbs ≤ 2199023255552 / N.natAbs)
theorem rO_bd {x N D : Int} (hO : rO x N D = true) (hN : N.natAbs ≤ 1073741824) : -2199023255552 ≤ x / D * N ∧ x / D * N ≤ 2199023255552 := by
  have h := of_decide_eq_true hO
  have hm : (x / D * N).natAbs = (x / D).natAbs * N.natAbs := Int.natAbs_mul _ _
  rcases h with h | h
  · subst h; simp
  · have h2 : (x / D).natAbs * N.natAbs ≤ 2199023255552 / N.natAbs * N.natAbs := Nat.mul_le_mul_right _ h
    have h3 := Nat.div_mul_le_self 2199023255552 N.natAbs
    omega
theorem mul_le_30 {r N D : Int} (h0 : 0 ≤ r) (h1 : r < D) (n1 : -1073741824 ≤ N) (n2 : N ≤ 1073741824) : -1073741824 * D ≤ r * N ∧ r * N ≤ 1073741824 * D := by
  have e1 : r * N ≤ r * 1073741824 := Int.mul_le_mul_of_nonneg_left n2 h0
  have e2 : r * -1073741824 ≤ r * N := Int.mul_le_mul_of_nonneg_left n1 h0
  omega
theorem rO_no {a b N D x : Int} (hD : 0 < D) (n1 : -1073741824 ≤ N) (n2 : N ≤ 1073741824) (hx : x = a ∨ x = b) (h : rO x N D = false) : vB (scLo a b N D) (scHi a b N D) = false := by
  have hO := of_decide_eq_false h
  have hN : N ≠ 0 := fun e => hO (.inl e)
  have hq : ¬ (x / D).natAbs ≤ 2199023255552 / N.natAbs := fun e => hO (.inr e)
  have hm : (x / D * N).natAbs = (x / D).natAbs * N.natAbs := Int.natAbs_mul _ _
  have h2 : (2199023255552 / N.natAbs + 1) * N.natAbs ≤ (x / D).natAbs * N.natAbs := Nat.mul_le_mul_right _ (by omega)
  have h3 : 2199023255552 < (2199023255552 / N.natAbs + 1) * N.natAbs := by rw [Nat.mul_comm]; exact Nat.lt_mul_div_succ _ (by omega)
  have hr : x = x / D * D + x % D := by have := Int.mul_ediv_add_emod x D; rw [Int.mul_comm] at this; omega
  have r0 := Int.emod_nonneg x (by omega : D ≠ 0)
  have r1 := Int.emod_lt_of_pos x hD
  obtain ⟨f1, f2⟩ := fl_parts (N := N) hD hr
  obtain ⟨m1, m2⟩ := mul_le_30 r0 r1 n1 n2
  have g1 : -1073741824 ≤ x % D * N / D := (Int.le_ediv_iff_mul_le hD).2 (by omega)
  have g2 : -1073741824 ≤ (0 - x % D * N) / D := (Int.le_ediv_iff_mul_le hD).2 (by omega)
  have g3 := fl_le_ce x N hD
  refine sc_far hD hx ?_
  omega
end R21
end Go.Proofs
