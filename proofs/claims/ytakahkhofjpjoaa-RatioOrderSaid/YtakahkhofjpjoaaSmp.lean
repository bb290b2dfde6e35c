/- The simplest number between two others, as a plain function. No program. -/
import Derived.Test.YtakahkhofjpjoaaFn
namespace Go.Proofs
namespace R12
/-- simplest number strictly between n/d and m/k (k = 0: without end) -/
def smp : Nat → Int → Int → Int → Int → Int × Int
  | 0, _, _, _, _ => (0, 0)
  | f + 1, n, d, m, k => if k = 0 ∨ (n / d + 1) * k < m then (n / d + 1, 1) else (n / d * (smp f k (m - n / d * k) d (n - n / d * d)).1 + (smp f k (m - n / d * k) d (n - n / d * d)).2, (smp f k (m - n / d * k) d (n - n / d * d)).1)
/-- what the recursion keeps -/
structure Sin (n d m k : Int) : Prop where
  n0 : 0 ≤ n
  d1 : 1 ≤ d
  k0 : 0 ≤ k
  lt : n * k < m * d
  nb : n ≤ 1073741824
  db : d ≤ 1073741824
  mb : m ≤ 1073741824
  kb : k ≤ 1073741824
theorem Sin.m1 {n d m k : Int} (h : Sin n d m k) : 1 ≤ m := by
  have h1 : 0 ≤ n * k := Int.mul_nonneg h.n0 h.k0
  have h2 : 0 < m * d := by have := h.lt; omega
  rcases Int.lt_or_le 0 m with hm | hm
  · omega
  · have : m * d ≤ 0 := Int.mul_nonpos_of_nonpos_of_nonneg hm (by have := h.d1; omega)
    omega
theorem Sin.q {n d m k : Int} (h : Sin n d m k) : 0 ≤ n / d ∧ n / d ≤ n ∧ 0 ≤ n / d * d ∧ n / d * d ≤ n ∧ n - n / d * d < d ∧ 0 ≤ n / d * k ∧ n / d * k < m := by
  have hd := h.d1
  have e := Int.mul_ediv_add_emod n d
  have r0 := Int.emod_nonneg n (by omega : d ≠ 0)
  have r1 := Int.emod_lt_of_pos n (by omega : 0 < d)
  rw [Int.mul_comm] at e
  have q0 : 0 ≤ n / d := Int.ediv_nonneg h.n0 (by omega)
  have q1 : 0 ≤ n / d * d := Int.mul_nonneg q0 (by omega)
  have q2 : n / d ≤ n := Int.ediv_le_self _ h.n0
  have q3 : 0 ≤ n / d * k := Int.mul_nonneg q0 h.k0
  refine ⟨q0, q2, q1, by omega, by omega, q3, ?_⟩
  -- q k d ≤ n k < m d
  rcases Int.lt_or_le (n / d * k) m with hq | hq
  · exact hq
  · have h1 : m * d ≤ n / d * k * d := Int.mul_le_mul_of_nonneg_right hq (by omega)
    have h2 : n / d * d * k ≤ n * k := Int.mul_le_mul_of_nonneg_right (by omega) h.k0
    have h3 : n / d * k * d = n / d * d * k := by rw [Int.mul_assoc, Int.mul_comm k d, ← Int.mul_assoc]
    have := h.lt
    omega
theorem Sin.next {n d m k : Int} (h : Sin n d m k) (hk : ¬ (k = 0 ∨ (n / d + 1) * k < m)) : Sin k (m - n / d * k) d (n - n / d * d) ∧ (m - n / d * k) + (n - n / d * d) < d + k := by
  obtain ⟨q0, q1, q2, q3, q4, q5, q6⟩ := h.q
  have hk1 : k ≠ 0 := fun e => hk (.inl e)
  have hk2 : ¬ (n / d + 1) * k < m := fun e => hk (.inr e)
  rw [Int.add_mul, Int.one_mul] at hk2
  have := h.k0; have := h.nb; have := h.db; have := h.mb; have := h.kb; have := h.d1
  refine ⟨⟨by omega, by omega, by omega, ?_, by omega, by omega, by omega, by omega⟩, by omega⟩
  rw [Int.mul_sub, Int.mul_sub]
  have h1 := h.lt
  have h2 : k * (n / d * d) = d * (n / d * k) := by rw [Int.mul_comm k, Int.mul_assoc, Int.mul_left_comm]
  have h3 : k * n = n * k := Int.mul_comm _ _
  have h4 : d * m = m * d := Int.mul_comm _ _
  omega
/-- the result's size -/
theorem smp_bd (f : Nat) : ∀ {n d m k : Int}, Sin n d m k → d + k < f → 1 ≤ (smp f n d m k).1 ∧ (smp f n d m k).1 ≤ n + m ∧ 1 ≤ (smp f n d m k).2 ∧ (smp f n d m k).2 ≤ d + k := by
  induction f with
  | zero => intro n d m k h hf; have := h.d1; have := h.k0; omega
  | succ f ih =>
    intro n d m k h hf
    obtain ⟨q0, q1, q2, q3, q4, q5, q6⟩ := h.q
    have hm1 := h.m1
    have hd1 := h.d1
    have hk0 := h.k0
    by_cases hk : k = 0 ∨ (n / d + 1) * k < m
    · simp only [smp, if_pos hk]
      refine ⟨by omega, ?_, by omega, by omega⟩
      omega
    · obtain ⟨h2, h3⟩ := h.next hk
      have h4 := ih h2 (by omega)
      simp only [smp, if_neg hk]
      generalize smp f k (m - n / d * k) d (n - n / d * d) = r at h4 ⊢
      obtain ⟨b1, b2, b3, b4⟩ := h4
      have h5 : n / d * r.1 ≤ n / d * (k + d) := Int.mul_le_mul_of_nonneg_left (by omega) q0
      have h6 : 0 ≤ n / d * r.1 := Int.mul_nonneg q0 (by omega)
      rw [Int.mul_add] at h5
      exact ⟨by omega, by omega, b1, by omega⟩
end R12
end Go.Proofs
