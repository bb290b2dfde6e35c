/- The plain law of Times: the integers around a product. No program. -/
import Derived.Test.YtakahkhofjpjoaaTi
import Derived.Test.YtakahkhofjpjoaaMath
namespace Go.Proofs
namespace R12
/-- what RatioMake asks of Times -/
theorem tm_law {N D b : Int} (h : okB N D = true) (hb : -1073741824 < b ∧ b < 1073741824) :
    ∃ lo hi : Int, (tmLo N D b = lo ∧ tmHi N D b = hi ∧ tmE N D b = 0) ∧ (tmLo N D (-b) = -hi ∧ tmHi N D (-b) = -lo ∧ tmE N D (-b) = 0) ∧
      0 ≤ hi - lo ∧ hi - lo ≤ 1 ∧ (hi = lo ↔ (N * b).tmod D = 0) ∧ lo * D ≤ N * b ∧ N * b ≤ hi * D ∧ N * b < (lo + 1) * D ∧ (hi - 1) * D < N * b ∧
      lo * D = N * b - (N * b) % D ∧ -1152921504606846976 ≤ lo ∧ lo ≤ 1152921504606846976 ∧ -1152921504606846976 ≤ hi ∧ hi ≤ 1152921504606846976 ∧ -1152921504606846976 ≤ (N * b) ∧ N * b ≤ 1152921504606846976 := by
  obtain ⟨h1, h2, h3, h4, -⟩ := okB_iff.1 h
  obtain ⟨p1, p2⟩ := mul30 (a := N) (b := b) h3 h4 (by omega) (by omega)
  have t1 := tm_ok (m := b) h (by omega)
  have t2 := tm_ok (m := -b) h (by omega)
  have e1 : N * -b = -N * b := by grind
  have e2 : -N * -b = N * b := by grind
  have e3 : -N * b = -(N * b) := by grind
  rw [e1, e2] at t2
  refine ⟨N * b / D, -(-N * b / D), t1, ⟨by rw [t2.1, Int.neg_neg], t2.2.1, t2.2.2⟩, ?_⟩
  rw [e3]
  generalize N * b = P at *
  have a1 := Int.mul_ediv_add_emod P D
  have a2 := Int.emod_nonneg P (by omega : D ≠ 0)
  have a3 := Int.emod_lt_of_pos P (by omega : 0 < D)
  have c1 := Int.mul_ediv_add_emod (-P) D
  have c2 := Int.emod_nonneg (-P) (by omega : D ≠ 0)
  have c3 := Int.emod_lt_of_pos (-P) (by omega : 0 < D)
  have n1 := Int.natAbs_ediv_le_natAbs P D
  have n2 := Int.natAbs_ediv_le_natAbs (-P) D
  have hz : P.tmod D = 0 ↔ P % D = 0 := by rw [← Int.dvd_iff_tmod_eq_zero, Int.dvd_iff_emod_eq_zero]
  rw [hz]
  generalize P / D = lo at *
  generalize -P / D = nh at *
  generalize P % D = r at *
  generalize -P % D = s at *
  -- D lo + r = P ; D nh + s = -P  =>  D (lo + nh) = -(r + s)
  have k1 : D * (lo + nh) = -(r + s) := by grind
  have k2 : lo + nh = 0 ∨ lo + nh = -1 := by
    rcases Int.lt_or_le 0 (lo + nh) with hh | hh
    · have : D * 1 ≤ D * (lo + nh) := Int.mul_le_mul_of_nonneg_left (by omega) (by omega)
      omega
    · rcases Int.lt_or_le (lo + nh) (-1) with h5 | h5
      · have : D * (lo + nh) ≤ D * (-2) := Int.mul_le_mul_of_nonneg_left (by omega) (by omega)
        omega
      · omega
  refine ⟨by omega, by omega, ?_, by grind, by grind, by grind, by grind, by grind, by omega, by omega, by omega, by omega, by omega, by omega⟩
  rcases k2 with k2 | k2
  · rw [k2] at k1
    constructor <;> intro <;> omega
  · rw [k2] at k1
    constructor <;> intro hh <;> omega
theorem mk_scale {n d k : Int} (hd : d ≠ 0) (hk : k ≠ 0) : mkN (n * k) (d * k) = mkN n d ∧ mkD (n * k) (d * k) = mkD n d ∧ mkE (n * k) (d * k) = mkE n d := by
  refine mk_eq ?_ hd (by grind)
  intro e; rcases Int.mul_eq_zero.1 e with e | e <;> omega
theorem mk_zero (n : Int) : mkN n 0 = 0 ∧ mkD n 0 = 0 ∧ mkE n 0 = 120 := by simp [mkN, mkD, mkE]
end R12
end Go.Proofs
