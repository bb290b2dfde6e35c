/- Products of intervals: what the laws need. Plain Lean. -/
import Derived.Test.YtfebhegaomdcoaaSclMath
set_option linter.unusedSectionVars false
set_option linter.unusedVariables false
set_option linter.unusedSimpArgs false
namespace Go.Kin.Iv

/-- the least and the greatest of the products of the ends -/
def mnP (a b c d : Int) : Int := min (min (min (a * c) (a * d)) (b * c)) (b * d)
def mxP (a b c d : Int) : Int := max (max (max (a * c) (a * d)) (b * c)) (b * d)
theorem seg {a b x : Int} (y : Int) (h1 : a ≤ x) (h2 : x ≤ b) : min (a * y) (b * y) ≤ x * y ∧ x * y ≤ max (a * y) (b * y) := by
  rcases Int.lt_or_le y 0 with h | h
  · have e1 := Int.mul_le_mul_of_nonpos_right h1 (by omega : y ≤ 0)
    have e2 := Int.mul_le_mul_of_nonpos_right h2 (by omega : y ≤ 0)
    omega
  · have e1 := Int.mul_le_mul_of_nonneg_right h1 h
    have e2 := Int.mul_le_mul_of_nonneg_right h2 h
    omega
theorem mu_in {a b c d x y : Int} (h1 : a ≤ x) (h2 : x ≤ b) (h3 : c ≤ y) (h4 : y ≤ d) : mnP a b c d ≤ x * y ∧ x * y ≤ mxP a b c d := by
  have s1 := seg y h1 h2
  have s2 := seg a h3 h4
  have s3 := seg b h3 h4
  rw [Int.mul_comm c a, Int.mul_comm d a, Int.mul_comm y a] at s2
  rw [Int.mul_comm c b, Int.mul_comm d b, Int.mul_comm y b] at s3
  unfold mnP mxP
  omega
theorem mn_at (a b c d : Int) : ∃ x y, (x = a ∨ x = b) ∧ (y = c ∨ y = d) ∧ mnP a b c d = x * y := by
  have : mnP a b c d = a * c ∨ mnP a b c d = a * d ∨ mnP a b c d = b * c ∨ mnP a b c d = b * d := by unfold mnP; omega
  rcases this with h | h | h | h
  · exact ⟨a, c, .inl rfl, .inl rfl, h⟩
  · exact ⟨a, d, .inl rfl, .inr rfl, h⟩
  · exact ⟨b, c, .inr rfl, .inl rfl, h⟩
  · exact ⟨b, d, .inr rfl, .inr rfl, h⟩
theorem mx_at (a b c d : Int) : ∃ x y, (x = a ∨ x = b) ∧ (y = c ∨ y = d) ∧ mxP a b c d = x * y := by
  have : mxP a b c d = a * c ∨ mxP a b c d = a * d ∨ mxP a b c d = b * c ∨ mxP a b c d = b * d := by unfold mxP; omega
  rcases this with h | h | h | h
  · exact ⟨a, c, .inl rfl, .inl rfl, h⟩
  · exact ⟨a, d, .inl rfl, .inr rfl, h⟩
  · exact ⟨b, c, .inr rfl, .inl rfl, h⟩
  · exact ⟨b, d, .inr rfl, .inr rfl, h⟩
theorem mn_le_mx (a b c d : Int) : mnP a b c d ≤ mxP a b c d := by unfold mnP mxP; omega
theorem mn_comm (a b c d : Int) : mnP a b c d = mnP c d a b := by
  unfold mnP; rw [Int.mul_comm c a, Int.mul_comm c b, Int.mul_comm d a, Int.mul_comm d b]; omega
theorem mx_comm (a b c d : Int) : mxP a b c d = mxP c d a b := by
  unfold mxP; rw [Int.mul_comm c a, Int.mul_comm c b, Int.mul_comm d a, Int.mul_comm d b]; omega
/-- a product of products -/
theorem mn_assoc {a b c d e f : Int} (h1 : a ≤ b) (h2 : c ≤ d) (h3 : e ≤ f) : mnP (mnP a b c d) (mxP a b c d) e f = mnP a b (mnP c d e f) (mxP c d e f) := by
  obtain ⟨p, z, hp, hz, e1⟩ := mn_at (mnP a b c d) (mxP a b c d) e f
  obtain ⟨x, q, hx, hq, e2⟩ := mn_at a b (mnP c d e f) (mxP c d e f)
  have hp2 : ∃ x y, (x = a ∨ x = b) ∧ (y = c ∨ y = d) ∧ p = x * y := by
    rcases hp with rfl | rfl
    · exact mn_at a b c d
    · exact mx_at a b c d
  have hq2 : ∃ x y, (x = c ∨ x = d) ∧ (y = e ∨ y = f) ∧ q = x * y := by
    rcases hq with rfl | rfl
    · exact mn_at c d e f
    · exact mx_at c d e f
  obtain ⟨x1, y1, hx1, hy1, rfl⟩ := hp2
  obtain ⟨y2, z2, hy2, hz2, rfl⟩ := hq2
  have g1 := mu_in (a := c) (b := d) (c := e) (d := f) (x := y1) (y := z) (by omega) (by omega) (by omega) (by omega)
  have g2 := (mu_in (a := a) (b := b) (c := mnP c d e f) (d := mxP c d e f) (x := x1) (y := y1 * z) (by omega) (by omega) g1.1 g1.2).1
  have g3 := mu_in (a := a) (b := b) (c := c) (d := d) (x := x) (y := y2) (by omega) (by omega) (by omega) (by omega)
  have g4 := (mu_in (a := mnP a b c d) (b := mxP a b c d) (c := e) (d := f) (x := x * y2) (y := z2) g3.1 g3.2 (by omega) (by omega)).1
  have k1 : x1 * y1 * z = x1 * (y1 * z) := Int.mul_assoc _ _ _
  have k2 : x * y2 * z2 = x * (y2 * z2) := Int.mul_assoc _ _ _
  omega
theorem mx_assoc {a b c d e f : Int} (h1 : a ≤ b) (h2 : c ≤ d) (h3 : e ≤ f) : mxP (mnP a b c d) (mxP a b c d) e f = mxP a b (mnP c d e f) (mxP c d e f) := by
  obtain ⟨p, z, hp, hz, e1⟩ := mx_at (mnP a b c d) (mxP a b c d) e f
  obtain ⟨x, q, hx, hq, e2⟩ := mx_at a b (mnP c d e f) (mxP c d e f)
  have hp2 : ∃ x y, (x = a ∨ x = b) ∧ (y = c ∨ y = d) ∧ p = x * y := by
    rcases hp with rfl | rfl
    · exact mn_at a b c d
    · exact mx_at a b c d
  have hq2 : ∃ x y, (x = c ∨ x = d) ∧ (y = e ∨ y = f) ∧ q = x * y := by
    rcases hq with rfl | rfl
    · exact mn_at c d e f
    · exact mx_at c d e f
  obtain ⟨x1, y1, hx1, hy1, rfl⟩ := hp2
  obtain ⟨y2, z2, hy2, hz2, rfl⟩ := hq2
  have g1 := mu_in (a := c) (b := d) (c := e) (d := f) (x := y1) (y := z) (by omega) (by omega) (by omega) (by omega)
  have g2 := (mu_in (a := a) (b := b) (c := mnP c d e f) (d := mxP c d e f) (x := x1) (y := y1 * z) (by omega) (by omega) g1.1 g1.2).2
  have g3 := mu_in (a := a) (b := b) (c := c) (d := d) (x := x) (y := y2) (by omega) (by omega) (by omega) (by omega)
  have g4 := (mu_in (a := mnP a b c d) (b := mxP a b c d) (c := e) (d := f) (x := x * y2) (y := z2) g3.1 g3.2 (by omega) (by omega)).2
  have k1 : x1 * y1 * z = x1 * (y1 * z) := Int.mul_assoc _ _ _
  have k2 : x * y2 * z2 = x * (y2 * z2) := Int.mul_assoc _ _ _
  omega
/-- a product and a sum -/
theorem mn_dist {a b c d e f : Int} (h1 : a ≤ b) (h2 : c ≤ d) (h3 : e ≤ f) : mnP a b c d + mnP a b e f ≤ mnP a b (c + e) (d + f) := by
  obtain ⟨x, s, hx, hs, e1⟩ := mn_at a b (c + e) (d + f)
  rw [e1]
  rcases hs with rfl | rfl
  · have g1 := (mu_in (a := a) (b := b) (c := c) (d := d) (x := x) (y := c) (by omega) (by omega) (by omega) (by omega)).1
    have g2 := (mu_in (a := a) (b := b) (c := e) (d := f) (x := x) (y := e) (by omega) (by omega) (by omega) (by omega)).1
    rw [Int.mul_add]; omega
  · have g1 := (mu_in (a := a) (b := b) (c := c) (d := d) (x := x) (y := d) (by omega) (by omega) (by omega) (by omega)).1
    have g2 := (mu_in (a := a) (b := b) (c := e) (d := f) (x := x) (y := f) (by omega) (by omega) (by omega) (by omega)).1
    rw [Int.mul_add]; omega
theorem mx_dist {a b c d e f : Int} (h1 : a ≤ b) (h2 : c ≤ d) (h3 : e ≤ f) : mxP a b (c + e) (d + f) ≤ mxP a b c d + mxP a b e f := by
  obtain ⟨x, s, hx, hs, e1⟩ := mx_at a b (c + e) (d + f)
  rw [e1]
  rcases hs with rfl | rfl
  · have g1 := (mu_in (a := a) (b := b) (c := c) (d := d) (x := x) (y := c) (by omega) (by omega) (by omega) (by omega)).2
    have g2 := (mu_in (a := a) (b := b) (c := e) (d := f) (x := x) (y := e) (by omega) (by omega) (by omega) (by omega)).2
    rw [Int.mul_add]; omega
  · have g1 := (mu_in (a := a) (b := b) (c := c) (d := d) (x := x) (y := d) (by omega) (by omega) (by omega) (by omega)).2
    have g2 := (mu_in (a := a) (b := b) (c := e) (d := f) (x := x) (y := f) (by omega) (by omega) (by omega) (by omega)).2
    rw [Int.mul_add]; omega
/-- inclusion -/
theorem mn_mono {a b c d a' b' c' d' : Int} (h1 : a ≤ b) (h2 : c ≤ d) (h3 : a' ≤ a) (h4 : b ≤ b') (h5 : c' ≤ c) (h6 : d ≤ d') : mnP a' b' c' d' ≤ mnP a b c d := by
  obtain ⟨x, y, hx, hy, e1⟩ := mn_at a b c d
  rw [e1]
  exact (mu_in (by omega) (by omega) (by omega) (by omega)).1
theorem mx_mono {a b c d a' b' c' d' : Int} (h1 : a ≤ b) (h2 : c ≤ d) (h3 : a' ≤ a) (h4 : b ≤ b') (h5 : c' ≤ c) (h6 : d ≤ d') : mxP a b c d ≤ mxP a' b' c' d' := by
  obtain ⟨x, y, hx, hy, e1⟩ := mx_at a b c d
  rw [e1]
  exact (mu_in (by omega) (by omega) (by omega) (by omega)).2
/-- roots -/
theorem rt_mono {m n : Int} (h0 : 0 ≤ m) (h : m ≤ n) : rt m ≤ rt n := by
  obtain ⟨a1, a2, a3⟩ := rt_is h0
  obtain ⟨b1, b2, b3⟩ := rt_is (n := n) (by omega)
  rcases Int.lt_or_le (rt n) (rt m) with h | h
  · exfalso
    have : (rt n + 1) * (rt n + 1) ≤ rt m * rt m := Int.mul_le_mul (by omega) (by omega) (by omega) (by omega)
    omega
  · exact h
end Go.Kin.Iv
