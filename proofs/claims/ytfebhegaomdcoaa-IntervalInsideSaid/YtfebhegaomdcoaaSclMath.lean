/- Products of a number and a ratio, rounded down and up. Plain Lean. -/
import Derived.Test.YtfebhegaomdcoaaIvMath
set_option linter.unusedSectionVars false
set_option linter.unusedVariables false
set_option linter.unusedSimpArgs false
namespace Go.Kin.Iv

/-- the integers around the product of a number and a ratio -/
def fl (x N D : Int) : Int := (x * N) / D
def ce (x N D : Int) : Int := -((-(x * N)) / D)
theorem div_uniq {x q D : Int} (hD : 0 < D) (h1 : q * D ≤ x) (h2 : x < (q + 1) * D) : x / D = q := by
  have a1 : q ≤ x / D := (Int.le_ediv_iff_mul_le hD).2 h1
  have a2 : x / D < q + 1 := (Int.ediv_lt_iff_lt_mul hD).2 h2
  omega
theorem div_lo (x : Int) {D : Int} (hD : 0 < D) : x / D * D ≤ x := Int.ediv_mul_le x (by omega)
theorem div_hi (x : Int) {D : Int} (hD : 0 < D) : x < (x / D + 1) * D := Int.lt_ediv_add_one_mul_self x hD
theorem fl_lo (x N : Int) {D : Int} (hD : 0 < D) : fl x N D * D ≤ x * N := div_lo _ hD
theorem fl_hi (x N : Int) {D : Int} (hD : 0 < D) : x * N < (fl x N D + 1) * D := div_hi _ hD
theorem neg_sub1 (q D : Int) : (-q - 1) * D = -((q + 1) * D) := by grind
theorem neg_add1 (q D : Int) : (-q + 1) * D = -((q - 1) * D) := by grind
theorem ce_hi (x N : Int) {D : Int} (hD : 0 < D) : x * N ≤ ce x N D * D := by
  have := div_lo (-(x * N)) hD
  unfold ce; rw [Int.neg_mul]; omega
theorem ce_lo (x N : Int) {D : Int} (hD : 0 < D) : (ce x N D - 1) * D < x * N := by
  have := div_hi (-(x * N)) hD
  unfold ce
  rw [neg_sub1]; omega
theorem ce_uniq {x N q D : Int} (hD : 0 < D) (h1 : x * N ≤ q * D) (h2 : (q - 1) * D < x * N) : ce x N D = q := by
  have : -(x * N) / D = -q := div_uniq hD (by rw [Int.neg_mul]; omega) (by rw [neg_add1]; omega)
  unfold ce; omega
theorem le_of_mul {p q D : Int} (hD : 0 < D) (h : p * D < (q + 1) * D) : p ≤ q := by
  rcases Int.lt_or_le q p with hh | hh
  · have : (q + 1) * D ≤ p * D := Int.mul_le_mul_of_nonneg_right (by omega) (by omega)
    omega
  · exact hh
theorem fl_le_ce (x N : Int) {D : Int} (hD : 0 < D) : fl x N D ≤ ce x N D := by
  have h1 := fl_lo x N hD
  have h2 := ce_hi x N hD
  refine le_of_mul hD ?_
  rw [Int.add_mul]; omega
theorem fl_mono {x y N M : Int} {D : Int} (hD : 0 < D) (h : x * N ≤ y * M) : fl x N D ≤ fl y M D := by
  have h1 := fl_lo x N hD
  have h2 := fl_hi y M hD
  exact le_of_mul hD (by omega)
theorem ce_mono {x y N M : Int} {D : Int} (hD : 0 < D) (h : x * N ≤ y * M) : ce x N D ≤ ce y M D := by
  have h1 := ce_lo x N hD
  have h2 := ce_hi y M hD
  have : ce x N D - 1 ≤ ce y M D - 1 := le_of_mul hD (by rw [Int.sub_add_cancel]; omega)
  omega
/-- the quotient of the sizes -/
def qa (x N : Int) (D : Nat) : Nat := x.natAbs * N.natAbs / D
def ra (x N : Int) (D : Nat) : Nat := x.natAbs * N.natAbs % D
def up (r : Nat) : Int := if 0 < r then 1 else 0
theorem around_pos {p : Int} {P q r D : Nat} (hD : 0 < D) (hp : p = (P : Int)) (hq : D * q + r = P) (hr : r < D) : p / (D : Int) = q ∧ -((-p) / (D : Int)) = (q : Int) + up r := by
  have h1 : (D : Int) * (q : Int) + (r : Int) = (P : Int) := by exact_mod_cast hq
  have h2 : (q : Int) * (D : Int) = (D : Int) * (q : Int) := Int.mul_comm _ _
  constructor
  · exact div_uniq (by omega) (by omega) (by rw [Int.add_mul]; omega)
  · unfold up
    split
    · have : (-p) / (D : Int) = -((q : Int) + 1) := div_uniq (by omega) (by rw [Int.neg_mul, Int.add_mul]; omega) (by rw [show -((q : Int) + 1) + 1 = -(q : Int) by omega, Int.neg_mul]; omega)
      omega
    · have : (-p) / (D : Int) = -(q : Int) := div_uniq (by omega) (by rw [Int.neg_mul]; omega) (by rw [Int.add_mul, Int.neg_mul]; omega)
      omega
theorem around_neg {p : Int} {P q r D : Nat} (hD : 0 < D) (hp : p = -(P : Int)) (hq : D * q + r = P) (hr : r < D) : p / (D : Int) = -((q : Int) + up r) ∧ -((-p) / (D : Int)) = -(q : Int) := by
  obtain ⟨h1, h2⟩ := around_pos (p := -p) hD (by omega) hq hr
  rw [Int.neg_neg] at h2
  exact ⟨by omega, by omega⟩
theorem around_same {x N : Int} {D : Nat} (hD : 0 < D) (hs : x < 0 ↔ N < 0) : fl x N D = (qa x N D : Int) ∧ ce x N D = (qa x N D : Int) + up (ra x N D) := by
  have hp : x * N = ((x.natAbs * N.natAbs : Nat) : Int) := by
    rw [← Int.natAbs_mul]
    have : 0 ≤ x * N := by
      by_cases h : x < 0
      · exact Int.mul_nonneg_of_nonpos_of_nonpos (by omega) (by have := hs.1 h; omega)
      · exact Int.mul_nonneg (by omega) (by have : ¬ N < 0 := fun e => h (hs.2 e); omega)
    omega
  exact around_pos hD hp (Nat.div_add_mod _ _) (Nat.mod_lt _ hD)
theorem around_other {x N : Int} {D : Nat} (hD : 0 < D) (hs : ¬ (x < 0 ↔ N < 0)) : fl x N D = -((qa x N D : Int) + up (ra x N D)) ∧ ce x N D = -(qa x N D : Int) := by
  have hp : x * N = -((x.natAbs * N.natAbs : Nat) : Int) := by
    rw [← Int.natAbs_mul]
    have : x * N ≤ 0 := by
      by_cases h : x < 0
      · exact Int.mul_nonpos_of_nonpos_of_nonneg (by omega) (by have : ¬ N < 0 := fun e => hs ⟨fun _ => e, fun _ => h⟩; omega)
      · exact Int.mul_nonpos_of_nonneg_of_nonpos (by omega) (by have : N < 0 := by { rcases Int.lt_or_le N 0 with e | e; exact e; exact absurd ⟨fun e => absurd e h, fun e2 => by omega⟩ hs }; omega)
    omega
  exact around_neg hD hp (Nat.div_add_mod _ _) (Nat.mod_lt _ hD)
/-- rounding down, as the reference does -/
theorem floor_eq (x : Int) {D : Int} (hD : 0 < D) : x / D = if x.tdiv D * D > x then x.tdiv D - 1 else x.tdiv D := by
  rcases Int.lt_or_le x 0 with h | h
  · have e1 : x.tdiv D = -((-x) / D) := by rw [← Int.tdiv_eq_ediv_of_nonneg (by omega), Int.neg_tdiv, Int.neg_neg]
    have h1 := div_lo (-x) hD
    have h2 := div_hi (-x) hD
    rw [e1]
    generalize (-x) / D = q at *
    rw [Int.add_mul] at h2
    split
    · rename_i hc
      rw [Int.neg_mul] at hc
      exact div_uniq hD (by rw [Int.sub_mul, Int.neg_mul]; omega) (by rw [Int.sub_add_cancel, Int.neg_mul]; omega)
    · rename_i hc
      rw [Int.neg_mul] at hc
      exact div_uniq hD (by rw [Int.neg_mul]; omega) (by rw [Int.add_mul, Int.neg_mul]; omega)
  · rw [Int.tdiv_eq_ediv_of_nonneg h]
    have h1 := div_lo x hD
    rw [if_neg (by omega)]
/-- the reference's way -/
theorem fl_parts {x N D q r : Int} (hD : 0 < D) (hx : x = q * D + r) : fl x N D = q * N + (r * N) / D ∧ ce x N D = q * N - (0 - r * N) / D := by
  have e1 : x * N = r * N + q * N * D := by rw [hx]; grind
  have e2 : -(x * N) = (0 - r * N) + (-(q * N)) * D := by rw [e1]; grind
  unfold fl ce
  rw [e2, e1, Int.add_mul_ediv_right _ _ (by omega), Int.add_mul_ediv_right _ _ (by omega)]
  omega
end Go.Kin.Iv
