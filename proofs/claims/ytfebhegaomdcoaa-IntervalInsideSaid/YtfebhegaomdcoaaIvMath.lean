/-! Intervals: what the chapter defines. Plain Lean. -/
set_option linter.unusedSectionVars false
set_option linter.unusedVariables false
set_option linter.unusedSimpArgs false
namespace Go.Kin.Iv

/-- a number of an interval, and an interval -/
def vB (a b : Int) : Bool := decide (-1099511627776 ≤ a ∧ a ≤ b ∧ b ≤ 1099511627776)
theorem vB_iff {a b : Int} : vB a b = true ↔ -1099511627776 ≤ a ∧ a ≤ b ∧ b ≤ 1099511627776 := by simp [vB]
theorem vB_no {a b : Int} : vB a b = false ↔ a < -1099511627776 ∨ b < a ∨ 1099511627776 < b := by
  rw [Bool.eq_false_iff, ne_eq, vB_iff]; omega

/-! ## Products of ends -/
theorem mul_le_abs {x y K L : Int} (hx1 : -K ≤ x) (hx2 : x ≤ K) (hy1 : -L ≤ y) (hy2 : y ≤ L) : -(K * L) ≤ x * y ∧ x * y ≤ K * L := by
  have hK : 0 ≤ K := by omega
  have hL : 0 ≤ L := by omega
  have h1 : 0 ≤ (K - x) * (L + y) := Int.mul_nonneg (by omega) (by omega)
  have h2 : 0 ≤ (K + x) * (L - y) := Int.mul_nonneg (by omega) (by omega)
  have h3 : 0 ≤ (K - x) * (L - y) := Int.mul_nonneg (by omega) (by omega)
  have h4 : 0 ≤ (K + x) * (L + y) := Int.mul_nonneg (by omega) (by omega)
  constructor <;> grind

/-! ## Square roots -/
def IsRoot (n s : Int) : Prop := 0 ≤ s ∧ s * s ≤ n ∧ n < (s + 1) * (s + 1)
theorem root_uniq {n s t : Int} (hs : IsRoot n s) (ht : IsRoot n t) : s = t := by
  have key : ∀ {s t : Int}, IsRoot n s → IsRoot n t → ¬ s < t := by
    intro s t ⟨h1, h2, h3⟩ ⟨h4, h5, h6⟩ hlt
    have : (s + 1) * (s + 1) ≤ t * t := Int.mul_le_mul (by omega) (by omega) (by omega) (by omega)
    omega
  have h1 := key hs ht
  have h2 := key ht hs
  omega
theorem root_exists (n : Nat) : ∃ s : Nat, s * s ≤ n ∧ n < (s + 1) * (s + 1) := by
  induction n with
  | zero => exact ⟨0, by decide, by decide⟩
  | succ n ih =>
    obtain ⟨s, h1, h2⟩ := ih
    by_cases h : n + 1 < (s + 1) * (s + 1)
    · exact ⟨s, by omega, h⟩
    · refine ⟨s + 1, by omega, ?_⟩
      have : (s + 1 + 1) * (s + 1 + 1) = (s + 1) * (s + 1) + 2 * s + 3 := by grind
      omega
noncomputable def rt (n : Int) : Int := ((root_exists n.toNat).choose : Nat)
theorem rt_is {n : Int} (h : 0 ≤ n) : IsRoot n (rt n) := by
  have h1 := (root_exists n.toNat).choose_spec
  have h2 : ((n.toNat : Nat) : Int) = n := Int.toNat_of_nonneg h
  refine ⟨by unfold rt; omega, ?_, ?_⟩
  · have h3 : (((root_exists n.toNat).choose * (root_exists n.toNat).choose : Nat) : Int) ≤ ((n.toNat : Nat) : Int) := by exact_mod_cast h1.1
    rw [h2, Int.natCast_mul] at h3
    exact h3
  · have h3 : ((n.toNat : Nat) : Int) < ((((root_exists n.toNat).choose + 1) * ((root_exists n.toNat).choose + 1) : Nat) : Int) := by exact_mod_cast h1.2
    rw [h2, Int.natCast_mul, Int.natCast_add] at h3
    exact h3
theorem rt_eq {n s : Int} (h : IsRoot n s) : rt n = s := root_uniq (rt_is (by have h1 := Int.mul_nonneg h.1 h.1; have h2 := h.2.1; omega)) h
/-- the root of a number of an interval -/
theorem rt_le {n : Int} (h0 : 0 ≤ n) (h : n ≤ 1099511627776) : rt n ≤ 1048576 := by
  obtain ⟨h1, h2, _⟩ := rt_is h0
  by_cases hlt : rt n ≤ 1048576
  · exact hlt
  · exfalso
    have : (1048577 : Int) * 1048577 ≤ rt n * rt n := Int.mul_le_mul (by omega) (by omega) (by omega) (by omega)
    omega
/-- one of Newton's steps -/
theorem newton {n r q : Int} (hn : 0 ≤ n) (hr : 0 < r) (hq1 : q * r ≤ n) (hq2 : n < (q + 1) * r) (hlt : n < r * r) {s : Int} (hs1 : 2 * s ≤ r + q) (hs2 : r + q ≤ 2 * s + 1) : 0 ≤ s ∧ s < r ∧ n < (s + 1) * (s + 1) := by
  have hq0 : 0 ≤ q := by
    rcases Int.lt_or_le q 0 with h | h
    · exfalso
      have : (q + 1) * r ≤ 0 := Int.mul_nonpos_of_nonpos_of_nonneg (by omega) (by omega)
      omega
    · exact h
  have hqr : q < r := by
    rcases Int.lt_or_le q r with h | h
    · exact h
    · exfalso
      have : r * r ≤ q * r := Int.mul_le_mul_of_nonneg_right h (by omega)
      omega
  refine ⟨by omega, by omega, ?_⟩
  have h1 : (r + q + 1) * (r + q + 1) ≤ (2 * (s + 1)) * (2 * (s + 1)) := Int.mul_le_mul (by omega) (by omega) (by omega) (by omega)
  have h2 : 0 ≤ (r - (q + 1)) * (r - (q + 1)) := by
    rcases Int.lt_or_le (r - (q + 1)) 0 with h | h
    · exact Int.mul_nonneg_of_nonpos_of_nonpos (by omega) (by omega)
    · exact Int.mul_nonneg h h
  grind
end Go.Kin.Iv
