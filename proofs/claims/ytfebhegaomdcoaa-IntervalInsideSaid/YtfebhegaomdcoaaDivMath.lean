/- A number of 128 bits divided by a small one, by halves. Plain Lean. -/
import Derived.Lib.BitFns
set_option linter.unusedSectionVars false
set_option linter.unusedVariables false
set_option linter.unusedSimpArgs false
namespace Go.Kin.Iv
open Go
theorem lt_bitLen : ∀ (k x : Nat), k ≤ 64 → x < 2 ^ k → x < 2 ^ (Lib.bitLen x) ∧ Lib.bitLen x ≤ k
  | 0, x, _, h => by
    have : x = 0 := by simpa using h
    subst this; decide
  | k + 1, x, hk, h => by
    by_cases h0 : x = 0
    · subst h0; exact ⟨by decide, Nat.le_trans (by decide : Lib.bitLen 0 ≤ 0) (Nat.zero_le _)⟩
    · have h64 : x < 2 ^ 64 := Nat.lt_of_lt_of_le h (Nat.pow_le_pow_right (by decide) hk)
      rw [Lib.bitLen_half x h0 h64]
      obtain ⟨h1, h2⟩ := lt_bitLen k (x / 2) (by omega) (by rw [Nat.pow_succ] at h; omega)
      exact ⟨by rw [Nat.add_comm, Nat.pow_succ]; omega, by omega⟩

/-- what the halves are -/
structure Halves (d hi lo s e a b c q1 r1 m q0 r0 : Nat) : Prop where
  y : d * 2 ^ s = e * 4294967296
  e0 : 0 < e
  e1 : e < 4294967296
  sum : (hi * 18446744073709551616 + lo) * 2 ^ s = (a * 4294967296 + b) * 4294967296 + c
  b1 : b < 4294967296
  c1 : c < 4294967296
  a1 : a < e * 4294967296
  f1 : a = q1 * e + r1
  g1 : r1 < e
  m1 : m = r1 * 4294967296 + b
  f0 : m = q0 * e + r0
  g0 : r0 < e
theorem Halves.quot {d hi lo s e a b c q1 r1 m q0 r0 : Nat} (h : Halves d hi lo s e a b c q1 r1 m q0 r0) :
    q1 * 4294967296 + q0 = (hi * 18446744073709551616 + lo) / d ∧ (r0 * 4294967296 + c) / 2 ^ s = (hi * 18446744073709551616 + lo) % d := by
  have hs : 0 < 2 ^ s := Nat.pow_pos (by decide)
  have hd : 0 < d := by
    rcases Nat.eq_zero_or_pos d with h0 | h0
    · have h1 := h.y
      have h2 := h.e0
      rw [h0, Nat.zero_mul] at h1; omega
    · exact h0
  obtain ⟨U, hU⟩ : ∃ U, hi * 18446744073709551616 + lo = U := ⟨_, rfl⟩
  have key : U * 2 ^ s = (q1 * 4294967296 + q0) * (d * 2 ^ s) + (r0 * 4294967296 + c) := by
    have e1 := h.sum; rw [hU] at e1
    rw [e1, h.y, h.f1]
    have e2 := h.m1; rw [h.f0] at e2
    have e3 : (r1 * 4294967296 + b) * 4294967296 = (q0 * e + r0) * 4294967296 := by rw [e2]
    grind
  have hr : r0 * 4294967296 + c < d * 2 ^ s := by
    rw [h.y]; have := h.g0; have := h.c1; omega
  rw [hU]
  have hdv : U / d = q1 * 4294967296 + q0 := by
    rw [← Nat.mul_div_mul_right U d hs, key, Nat.add_comm, Nat.add_mul_div_right _ _ (Nat.mul_pos hd hs), Nat.div_eq_of_lt hr, Nat.zero_add]
  have hmd : U % d * 2 ^ s = r0 * 4294967296 + c := by
    rw [← Nat.mul_mod_mul_right (2 ^ s) U d, key, Nat.add_comm, Nat.add_mul_mod_self_right, Nat.mod_eq_of_lt hr]
  exact ⟨hdv.symm, by rw [← hmd, Nat.mul_div_cancel _ hs]⟩
theorem Halves.small {d hi lo s e a b c q1 r1 m q0 r0 : Nat} (h : Halves d hi lo s e a b c q1 r1 m q0 r0) : q1 < 4294967296 ∧ q0 < 4294967296 ∧ m < 18446744073709551616 ∧ q1 * e ≤ a ∧ q0 * e ≤ m := by
  have h1 := h.f1; have h2 := h.a1; have h3 := h.m1; have h4 := h.g1; have h5 := h.b1; have h6 := h.f0; have h7 := h.e1
  refine ⟨?_, ?_, by omega, by omega, by omega⟩
  · rcases Nat.lt_or_ge q1 4294967296 with hh | hh
    · exact hh
    · have := Nat.mul_le_mul_right e hh; omega
  · rcases Nat.lt_or_ge q0 4294967296 with hh | hh
    · exact hh
    · have := Nat.mul_le_mul_right e hh; omega
/-- the halves of the text -/
theorem halves_of {d hi lo : Nat} (hd : 0 < d) (hd2 : d ≤ 1073741824) (hh : hi < d) (hl : lo < 18446744073709551616) {s : Nat} (hs : s = 64 - Lib.bitLen d) :
    33 ≤ s ∧ s ≤ 64 ∧ d * 2 ^ s < 18446744073709551616 ∧ Halves d hi lo s (d * 2 ^ s / 4294967296) (hi * 2 ^ s + lo / 2 ^ (64 - s)) (lo * 2 ^ s % 18446744073709551616 / 4294967296) (lo * 2 ^ s % 18446744073709551616 % 4294967296)
      ((hi * 2 ^ s + lo / 2 ^ (64 - s)) / (d * 2 ^ s / 4294967296)) ((hi * 2 ^ s + lo / 2 ^ (64 - s)) % (d * 2 ^ s / 4294967296))
      ((hi * 2 ^ s + lo / 2 ^ (64 - s)) % (d * 2 ^ s / 4294967296) * 4294967296 + lo * 2 ^ s % 18446744073709551616 / 4294967296)
      (((hi * 2 ^ s + lo / 2 ^ (64 - s)) % (d * 2 ^ s / 4294967296) * 4294967296 + lo * 2 ^ s % 18446744073709551616 / 4294967296) / (d * 2 ^ s / 4294967296))
      (((hi * 2 ^ s + lo / 2 ^ (64 - s)) % (d * 2 ^ s / 4294967296) * 4294967296 + lo * 2 ^ s % 18446744073709551616 / 4294967296) % (d * 2 ^ s / 4294967296)) := by
  obtain ⟨l1, l2⟩ := lt_bitLen 31 d (by decide) (by omega)
  have hs1 : 33 ≤ s := by omega
  have hs2 : s ≤ 64 := by omega
  have hp : 2 ^ s * 2 ^ (64 - s) = 18446744073709551616 := by rw [← Nat.pow_add, show s + (64 - s) = 64 by omega]
  have hp2 : 2 ^ (Lib.bitLen d) = 2 ^ (64 - s) := by rw [show 64 - s = Lib.bitLen d by omega]
  have hp3 : 2 ^ s = 2 ^ (s - 32) * 4294967296 := by rw [show (4294967296 : Nat) = 2 ^ 32 by decide, ← Nat.pow_add, show s - 32 + 32 = s by omega]
  have hP : 0 < 2 ^ (64 - s) := Nat.pow_pos (by decide)
  have hS : 0 < 2 ^ s := Nat.pow_pos (by decide)
  have hS2 : 0 < 2 ^ (s - 32) := Nat.pow_pos (by decide)
  have hdS : d * 2 ^ s < 18446744073709551616 := by
    rw [← hp, Nat.mul_comm (2 ^ s)]
    exact Nat.mul_lt_mul_of_pos_right (by rw [← hp2]; exact l1) hS
  have he : d * 2 ^ s / 4294967296 = d * 2 ^ (s - 32) := by rw [hp3, ← Nat.mul_assoc, Nat.mul_div_cancel _ (by decide)]
  have he2 : d * 2 ^ s = d * 2 ^ s / 4294967296 * 4294967296 := by rw [he, Nat.mul_assoc, ← hp3]
  have he0 : 0 < d * 2 ^ s / 4294967296 := by rw [he]; exact Nat.mul_pos hd hS2
  have hlq : lo / 2 ^ (64 - s) < 2 ^ s := by rw [Nat.div_lt_iff_lt_mul hP, hp]; exact hl
  have hlow : lo * 2 ^ s = lo / 2 ^ (64 - s) * 18446744073709551616 + lo * 2 ^ s % 18446744073709551616 := by
    have h1 : lo * 2 ^ s / 18446744073709551616 = lo / 2 ^ (64 - s) := by rw [← hp, Nat.mul_comm lo, Nat.mul_div_mul_left _ _ hS]
    have h2 := Nat.div_add_mod (lo * 2 ^ s) 18446744073709551616
    rw [h1] at h2; omega
  have hua : hi * 2 ^ s + lo / 2 ^ (64 - s) < d * 2 ^ s := by
    have : (hi + 1) * 2 ^ s ≤ d * 2 ^ s := Nat.mul_le_mul_right _ hh
    rw [Nat.add_mul, Nat.one_mul] at this; omega
  refine ⟨hs1, hs2, hdS, he2, he0, by omega, ?_, by omega, Nat.mod_lt _ (by decide), by rw [← he2]; exact hua, ?_, Nat.mod_lt _ he0, rfl, ?_, Nat.mod_lt _ he0⟩
  · rw [Nat.add_mul, hlow]
    have : hi * 18446744073709551616 * 2 ^ s = hi * 2 ^ s * 18446744073709551616 := by rw [Nat.mul_assoc, Nat.mul_comm 18446744073709551616, Nat.mul_assoc]
    rw [this]
    generalize hi * 2 ^ s = X
    generalize lo / 2 ^ (64 - s) = Y
    have hz : lo * 2 ^ s % 18446744073709551616 < 18446744073709551616 := Nat.mod_lt _ (by decide)
    generalize lo * 2 ^ s % 18446744073709551616 = Z at *
    omega
  · exact (Nat.div_add_mod' _ _).symm
  · exact (Nat.div_add_mod' _ _).symm
end Go.Kin.Iv
