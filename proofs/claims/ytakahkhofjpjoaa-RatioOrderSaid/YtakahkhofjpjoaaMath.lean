/- The plain laws of reduced fractions. No program. -/
import Derived.Test.YtakahkhofjpjoaaSmp
namespace Go.Proofs
namespace R12
theorem nat_red {a b c d : Nat} (hb : 0 < b) (hd : 0 < d) (h : a * d = c * b) : a / Nat.gcd a b = c / Nat.gcd c d ∧ b / Nat.gcd a b = d / Nat.gcd c d := by
  have e1 : Nat.gcd (a * d) (b * d) = Nat.gcd a b * d := Nat.gcd_mul_right a d b
  have e2 : Nat.gcd (c * b) (d * b) = Nat.gcd c d * b := Nat.gcd_mul_right c b d
  have e3 : Nat.gcd a b * d = Nat.gcd c d * b := by rw [← e1, ← e2, h, Nat.mul_comm b d]
  constructor
  · rw [← Nat.mul_div_mul_right a (Nat.gcd a b) hd, ← Nat.mul_div_mul_right c (Nat.gcd c d) hb, h, e3]
  · rw [← Nat.mul_div_mul_right b (Nat.gcd a b) hd, ← Nat.mul_div_mul_right d (Nat.gcd c d) hb, e3, Nat.mul_comm b d]
theorem sgn_eq {x y x' y' : Int} (hx : x ≠ 0) (hy : y ≠ 0) (hy' : y' ≠ 0) (h : x * y' = x' * y) : ((decide (x < 0)) != (decide (y < 0))) = ((decide (x' < 0)) != (decide (y' < 0))) := by
  have hx' : x' ≠ 0 := by intro e; rw [e, Int.zero_mul] at h; rcases Int.mul_eq_zero.1 h with h | h <;> omega
  have key : x * y' < 0 ↔ x' * y < 0 := by rw [h]
  have m : ∀ a b : Int, a ≠ 0 → b ≠ 0 → (a * b < 0 ↔ (a < 0 ∧ 0 < b ∨ 0 < a ∧ b < 0)) := fun a b ha hb => by
    constructor
    · intro hl
      rcases Int.lt_or_le a 0 with h1 | h1 <;> rcases Int.lt_or_le b 0 with h2 | h2
      · have := Int.mul_pos_of_neg_of_neg h1 h2; omega
      · left; omega
      · right; omega
      · have := Int.mul_nonneg h1 h2; omega
    · rintro (⟨h1, h2⟩ | ⟨h1, h2⟩)
      · exact Int.mul_neg_of_neg_of_pos h1 h2
      · exact Int.mul_neg_of_pos_of_neg h1 h2
  rw [m _ _ hx hy', m _ _ hx' hy] at key
  by_cases a1 : x < 0 <;> by_cases a2 : y < 0 <;> by_cases a3 : x' < 0 <;> by_cases a4 : y' < 0 <;> simp [a1, a2, a3, a4] <;> omega
theorem mk_eq {x y x' y' : Int} (hy : y ≠ 0) (hy' : y' ≠ 0) (h : x * y' = x' * y) : mkN x y = mkN x' y' ∧ mkD x y = mkD x' y' ∧ mkE x y = mkE x' y' := by
  have hn : x.natAbs * y'.natAbs = x'.natAbs * y.natAbs := by rw [← Int.natAbs_mul, ← Int.natAbs_mul, h]
  obtain ⟨r1, r2⟩ := nat_red (a := x.natAbs) (b := y.natAbs) (c := x'.natAbs) (d := y'.natAbs) (by omega) (by omega) hn
  have hb : mkBig x y = mkBig x' y' := by unfold mkBig mkG; rw [r1, r2]
  refine ⟨?_, ?_, ?_⟩
  · unfold mkN
    rw [if_neg hy, if_neg hy', hb]
    unfold mkG
    rw [r1]
    by_cases hx : x = 0
    · have hx' : x' = 0 := by subst hx; rw [Int.zero_mul] at h; rcases Int.mul_eq_zero.1 h.symm with h | h <;> omega
      subst hx; subst hx'
      simp
    · rw [sgn_eq hx hy hy' h]
  · unfold mkD; rw [if_neg hy, if_neg hy', hb]; unfold mkG; rw [r2]
  · unfold mkE; rw [if_neg hy, if_neg hy', hb]
theorem mk_okB {n d : Int} (h : okB n d = true) : mkN n d = n ∧ mkD n d = d ∧ mkE n d = 0 := by
  obtain ⟨h1, h2, h3, h4, h5⟩ := okB_iff.1 h
  have hg : mkG n d = 1 := h5
  have hb : mkBig n d = false := by unfold mkBig; rw [hg, Nat.div_one, Nat.div_one]; simp; omega
  refine ⟨?_, ?_, ?_⟩
  · unfold mkN; rw [if_neg (by omega), hb, hg, Nat.div_one]
    have : decide (d < 0) = false := by simp; omega
    rw [this]
    by_cases hn : n < 0
    · simp [hn]; omega
    · simp [hn]; omega
  · unfold mkD; rw [if_neg (by omega), hb, hg, Nat.div_one]; simp; omega
  · unfold mkE; rw [if_neg (by omega), hb]; rfl
theorem mk_le {x y : Int} (hy : y ≠ 0) (h1 : -1073741824 ≤ x) (h2 : x ≤ 1073741824) (h3 : -1073741824 ≤ y) (h4 : y ≤ 1073741824) : mkE x y = 0 := by
  have hb : mkBig x y = false := by
    unfold mkBig
    have a1 := Nat.div_le_self x.natAbs (mkG x y)
    have a2 := Nat.div_le_self y.natAbs (mkG x y)
    simp; omega
  unfold mkE; rw [if_neg hy, hb]; rfl
theorem mk_lim {x y : Int} (hy : y ≠ 0) (h : mkE x y ≠ 0) : mkE x y = 2 ∧ mkN x y = 0 ∧ mkD x y = 0 := by
  have hb : mkBig x y = true := by
    cases hb : mkBig x y with
    | true => rfl
    | false => exfalso; apply h; unfold mkE; rw [if_neg hy, hb]; rfl
  refine ⟨?_, ?_, ?_⟩
  · unfold mkE; rw [if_neg hy, hb]; rfl
  · unfold mkN; rw [if_neg hy, hb]; rfl
  · unfold mkD; rw [if_neg hy, hb]; rfl
theorem mk_cases {x y : Int} (hy : y ≠ 0) : mkE x y = 0 ∨ mkE x y = 2 := by
  by_cases h : mkE x y = 0
  · exact .inl h
  · exact .inr (mk_lim hy h).1
theorem mk_spec {x y : Int} (hy : y ≠ 0) (h : mkE x y = 0) : okB (mkN x y) (mkD x y) = true ∧ mkN x y * y = x * mkD x y ∧ 1 ≤ mkD x y ∧ mkD x y ≤ y.natAbs ∧ (mkN x y).natAbs ≤ x.natAbs := by
  have hb : mkBig x y = false := by
    cases hb : mkBig x y with
    | false => rfl
    | true => exfalso; unfold mkE at h; rw [if_neg hy, hb] at h; simp at h
  have hsm : ¬ (1073741824 < x.natAbs / mkG x y ∨ 1073741824 < y.natAbs / mkG x y) := by
    unfold mkBig at hb; exact of_decide_eq_false hb
  have hg := mkG_pos (n := x) hy
  have gx : mkG x y ∣ x.natAbs := Nat.gcd_dvd_left _ _
  have gy : mkG x y ∣ y.natAbs := Nat.gcd_dvd_right _ _
  have hcop : Nat.gcd (x.natAbs / mkG x y) (y.natAbs / mkG x y) = 1 := Nat.gcd_div_gcd_div_gcd_of_pos_right (by omega)
  have eX : x.natAbs / mkG x y * mkG x y = x.natAbs := Nat.div_mul_cancel gx
  have eY : y.natAbs / mkG x y * mkG x y = y.natAbs := Nat.div_mul_cancel gy
  have hD : mkD x y = ((y.natAbs / mkG x y : Nat) : Int) := by unfold mkD; rw [if_neg hy, hb]; rfl
  have hN : mkN x y = if (decide (x < 0)) != (decide (y < 0)) then -((x.natAbs / mkG x y : Nat) : Int) else ((x.natAbs / mkG x y : Nat) : Int) := by
    conv => lhs; unfold mkN
    rw [if_neg hy, hb]; rfl
  have lx := Nat.div_le_self x.natAbs (mkG x y)
  have ly := Nat.div_le_self y.natAbs (mkG x y)
  generalize x.natAbs / mkG x y = X at *
  generalize y.natAbs / mkG x y = Y at *
  generalize mkG x y = g at *
  have hYp : 0 < Y := by
    rcases Nat.eq_zero_or_pos Y with e | e
    · subst e; rw [Nat.zero_mul] at eY; omega
    · exact e
  have hXn : (mkN x y).natAbs = X := by rw [hN]; split <;> omega
  refine ⟨?_, ?_, ?_, ?_, ?_⟩
  · rw [okB_iff, hXn, hD]
    refine ⟨by omega, by omega, ?_, ?_, ?_⟩
    · omega
    · omega
    · rw [Int.natAbs_natCast]; exact hcop
  · rw [hN, hD]
    have e1 : (x.natAbs : Int) = (X : Int) * g := by rw [← eX]; simp
    have e2 : (y.natAbs : Int) = (Y : Int) * g := by rw [← eY]; simp
    by_cases a1 : x < 0 <;> by_cases a2 : y < 0 <;> simp [a1, a2]
    · have : x = -((X : Int) * g) := by omega
      have : y = -((Y : Int) * g) := by omega
      subst x; subst y; grind
    · have : x = -((X : Int) * g) := by omega
      have : y = ((Y : Int) * g) := by omega
      subst x; subst y; grind
    · have : x = ((X : Int) * g) := by omega
      have : y = -((Y : Int) * g) := by omega
      subst x; subst y; grind
    · have : x = ((X : Int) * g) := by omega
      have : y = ((Y : Int) * g) := by omega
      subst x; subst y; grind
  · rw [hD]; omega
  · rw [hD]; omega
  · rw [hXn]; exact lx
/-- the simplest number lies between, and is least -/
theorem smp_min (f : Nat) : ∀ {n d m k : Int}, Sin n d m k → d + k < f →
    n * (smp f n d m k).2 < (smp f n d m k).1 * d ∧ (smp f n d m k).1 * k < m * (smp f n d m k).2 ∧
    ∀ u v : Int, 1 ≤ v → n * v < u * d → u * k < m * v → (smp f n d m k).2 ≤ v ∧ (smp f n d m k).1 ≤ u := by
  induction f with
  | zero => intro n d m k h hf; have := h.d1; have := h.k0; omega
  | succ f ih =>
    intro n d m k h hf
    obtain ⟨q0, q1, q2, q3, q4, q5, q6⟩ := h.q
    have hm1 := h.m1
    have hd1 := h.d1
    have hk0 := h.k0
    have hn0 := h.n0
    by_cases hk : k = 0 ∨ (n / d + 1) * k < m
    · simp only [smp, if_pos hk]
      generalize n / d = q at *
      refine ⟨by grind, ?_, ?_⟩
      · rcases hk with hk | hk
        · subst hk; omega
        · omega
      · intro u v hv h1 h2
        refine ⟨hv, ?_⟩
        -- u d > n v ≥ n ≥ q d
        rcases Int.lt_or_le q u with hq | hq
        · omega
        · have a1 : u * d ≤ q * d := Int.mul_le_mul_of_nonneg_right hq (by omega)
          have a2 : n * 1 ≤ n * v := Int.mul_le_mul_of_nonneg_left hv hn0
          omega
    · obtain ⟨h2, h3⟩ := h.next hk
      obtain ⟨i1, i2, i3⟩ := ih h2 (by omega)
      have hbd := smp_bd f h2 (by omega)
      simp only [smp, if_neg hk]
      generalize smp f k (m - n / d * k) d (n - n / d * d) = r at *
      generalize n / d = q at *
      refine ⟨by grind, by grind, ?_⟩
      intro u v hv h4 h5
      have a1 : q * d * v ≤ n * v := Int.mul_le_mul_of_nonneg_right q3 (by omega)
      have a2 : q * v < u := by
        rcases Int.lt_or_le (q * v) u with hq | hq
        · exact hq
        · have : u * d ≤ q * v * d := Int.mul_le_mul_of_nonneg_right hq (by omega)
          grind
      obtain ⟨b1, b2⟩ := i3 v (u - q * v) (by omega) (by grind) (by grind)
      have a3 : q * r.1 ≤ q * v := Int.mul_le_mul_of_nonneg_left b2 q0
      exact ⟨b2, by omega⟩
/-- .. and reduced -/
theorem smp_cop (f : Nat) {n d m k : Int} (h : Sin n d m k) (hf : d + k < f) : Nat.gcd (smp f n d m k).1.natAbs (smp f n d m k).2.natAbs = 1 := by
  obtain ⟨i1, i2, i3⟩ := smp_min f h hf
  obtain ⟨b1, b2, b3, b4⟩ := smp_bd f h hf
  have hd1 := h.d1
  have hk0 := h.k0
  generalize smp f n d m k = r at *
  obtain ⟨x, y⟩ := r
  simp only at *
  obtain ⟨g, hg⟩ : ∃ g, Nat.gcd x.natAbs y.natAbs = g := ⟨_, rfl⟩
  rw [hg]
  have gx : g ∣ x.natAbs := by rw [← hg]; exact Nat.gcd_dvd_left _ _
  have gy : g ∣ y.natAbs := by rw [← hg]; exact Nat.gcd_dvd_right _ _
  obtain ⟨X, hX⟩ := gx
  obtain ⟨Y, hY⟩ := gy
  have gp : 0 < g := by rcases Nat.eq_zero_or_pos g with e | e
                        · subst e; simp at hY; omega
                        · exact e
  have ex : x = (g : Int) * X := by have : (x.natAbs : Int) = (g : Int) * X := by rw [hX]; simp
                                    omega
  have ey : y = (g : Int) * Y := by have : (y.natAbs : Int) = (g : Int) * Y := by rw [hY]; simp
                                    omega
  have gI : (0 : Int) < g := by omega
  have hY1 : (1 : Int) ≤ Y := by
    rcases Nat.eq_zero_or_pos Y with e | e
    · subst e; simp at ey; omega
    · omega
  have c1 : n * (Y : Int) < X * d := by
    apply Int.lt_of_mul_lt_mul_left (a := (g : Int)) _ (by omega)
    rw [ex, ey] at i1; grind
  have c2 : (X : Int) * k < m * Y := by
    apply Int.lt_of_mul_lt_mul_left (a := (g : Int)) _ (by omega)
    rw [ex, ey] at i2; grind
  have := (i3 X Y hY1 c1 c2).1
  rw [ey] at this
  rcases Int.lt_or_le 1 (g : Int) with h2 | h2
  · have : 2 * (Y : Int) ≤ g * Y := Int.mul_le_mul_of_nonneg_right (by omega) (by omega)
    omega
  · omega
end R12
end Go.Proofs
