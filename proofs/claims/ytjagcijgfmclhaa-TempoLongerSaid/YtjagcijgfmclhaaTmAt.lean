/- Clocks: the ticks around a point of a bar. Plain Lean. -/
set_option linter.unusedSectionVars false
set_option linter.unusedVariables false
set_option linter.unusedSimpArgs false
namespace Go.Kin.Tm

/-- the integers around N * n / D -/
def lowA (N D n : Int) : Int := N * n / D
def higA (N D n : Int) : Int := -((-(N * n)) / D)
theorem lowA_bd {N D n : Int} (hD : 0 < D) : lowA N D n * D ≤ N * n ∧ N * n < (lowA N D n + 1) * D := ⟨Int.ediv_mul_le _ (by omega), Int.lt_ediv_add_one_mul_self _ hD⟩
theorem higA_bd {N D n : Int} (hD : 0 < D) : N * n ≤ higA N D n * D ∧ (higA N D n - 1) * D < N * n := by
  have h1 := Int.ediv_mul_le (-(N * n)) (by omega : D ≠ 0)
  have h2 := Int.lt_ediv_add_one_mul_self (-(N * n)) hD
  unfold higA
  rw [Int.neg_mul, show -(-(N * n) / D) - 1 = -(-(N * n) / D + 1) by omega, Int.neg_mul]
  omega
theorem le_of_mulA {p q D : Int} (hD : 0 < D) (h : p * D < (q + 1) * D) : p ≤ q := by
  rcases Int.lt_or_le q p with hh | hh
  · have : (q + 1) * D ≤ p * D := Int.mul_le_mul_of_nonneg_right (by omega) (by omega)
    omega
  · exact hh
/-- the reference's way up -/
theorem higA_eq {N D n : Int} (hD : 0 < D) : (N * n + D - 1) / D = higA N D n := by
  obtain ⟨h1, h2⟩ := higA_bd (N := N) (n := n) hD
  have a1 : higA N D n ≤ (N * n + D - 1) / D := (Int.le_ediv_iff_mul_le hD).2 (by rw [Int.sub_mul, Int.one_mul] at h2; omega)
  have a2 : (N * n + D - 1) / D < higA N D n + 1 := (Int.ediv_lt_iff_lt_mul hD).2 (by rw [Int.add_mul]; omega)
  omega
theorem low_hig {N D n : Int} (hD : 0 < D) : lowA N D n ≤ higA N D n ∧ higA N D n ≤ lowA N D n + 1 := by
  obtain ⟨h1, h2⟩ := lowA_bd (N := N) (n := n) hD
  obtain ⟨h3, h4⟩ := higA_bd (N := N) (n := n) hD
  refine ⟨le_of_mulA hD (by rw [Int.add_mul]; omega), ?_⟩
  have : higA N D n - 1 ≤ lowA N D n := le_of_mulA hD (by omega)
  omega
theorem low_nonneg {N D n : Int} (hD : 0 < D) (hN : 0 ≤ N) (hn : 0 ≤ n) : 0 ≤ lowA N D n := Int.ediv_nonneg (Int.mul_nonneg hN hn) (by omega)
theorem hig_le {N D n : Int} (hD : 0 < D) (hN : N ≤ D) (hn : 0 ≤ n) : higA N D n ≤ n := by
  obtain ⟨h3, h4⟩ := higA_bd (N := N) (n := n) hD
  have h1 : N * n ≤ D * n := Int.mul_le_mul_of_nonneg_right hN hn
  have : higA N D n - 1 < n := by
    rcases Int.lt_or_le (higA N D n - 1) n with h | h
    · exact h
    · exfalso
      have := Int.mul_le_mul_of_nonneg_right h (by omega : 0 ≤ D)
      rw [Int.mul_comm n D] at this
      omega
  omega
/-- the order -/
theorem mul3 {N1 D1 N2 D2 n : Int} (hn : 0 ≤ n) (h : N2 * D1 ≤ N1 * D2) : N2 * n * D1 ≤ N1 * n * D2 := by
  have := Int.mul_le_mul_of_nonneg_right h hn
  rw [show N2 * n * D1 = N2 * D1 * n by grind, show N1 * n * D2 = N1 * D2 * n by grind]
  exact this
theorem low_mono {N1 D1 N2 D2 n : Int} (h1 : 0 < D1) (h2 : 0 < D2) (hn : 0 ≤ n) (h : N2 * D1 ≤ N1 * D2) : lowA N2 D2 n ≤ lowA N1 D1 n := by
  obtain ⟨a1, a2⟩ := lowA_bd (N := N1) (n := n) h1
  obtain ⟨b1, b2⟩ := lowA_bd (N := N2) (n := n) h2
  have hm := mul3 hn h
  have c1 := Int.mul_le_mul_of_nonneg_right b1 (by omega : 0 ≤ D1)
  have c2 := Int.mul_lt_mul_of_pos_right a2 h2
  refine le_of_mulA h1 (Int.lt_of_mul_lt_mul_right (a := D2) ?_ (by omega))
  have e1 : lowA N2 D2 n * D1 * D2 = lowA N2 D2 n * D2 * D1 := by grind
  omega
theorem hig_mono {N1 D1 N2 D2 n : Int} (h1 : 0 < D1) (h2 : 0 < D2) (hn : 0 ≤ n) (h : N2 * D1 ≤ N1 * D2) : higA N2 D2 n ≤ higA N1 D1 n := by
  obtain ⟨a1, a2⟩ := higA_bd (N := N1) (n := n) h1
  obtain ⟨b1, b2⟩ := higA_bd (N := N2) (n := n) h2
  have hm := mul3 hn h
  have c1 := Int.mul_le_mul_of_nonneg_right a1 (by omega : 0 ≤ D2)
  have c2 := Int.mul_lt_mul_of_pos_right b2 h1
  have : higA N2 D2 n - 1 < higA N1 D1 n := by
    refine Int.lt_of_mul_lt_mul_right (a := D2) (Int.lt_of_mul_lt_mul_right (a := D1) ?_ (by omega)) (by omega)
    have e1 : higA N1 D1 n * D2 * D1 = higA N1 D1 n * D1 * D2 := by grind
    omega
  omega
theorem low_one (n : Int) : lowA 1 1 n = n ∧ higA 1 1 n = n := by unfold lowA higA; simp
theorem low_zero (D n : Int) : lowA 0 D n = 0 ∧ higA 0 D n = 0 := by unfold lowA higA; simp
end Go.Kin.Tm
