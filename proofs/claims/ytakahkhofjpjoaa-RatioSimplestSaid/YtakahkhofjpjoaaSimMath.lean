/- The plain law behind RatioSimplest. No program. -/
import Derived.Test.YtakahkhofjpjoaaOrdMath
import Derived.Test.YtakahkhofjpjoaaBt
namespace Go.Proofs
namespace R12
structure Sim (n d m k X Y : Int) : Prop where
  y1 : 1 ≤ Y
  cop : Nat.gcd X.natAbs Y.natAbs = 1
  lo : n * Y < X * d
  hi : X * k < m * Y
  least : ∀ u v : Int, 1 ≤ v → n * v < u * d → u * k < m * v → Y ≤ v ∧ X.natAbs ≤ u.natAbs ∧ (u.natAbs = X.natAbs → u = X)
theorem sim_bt {n d m k : Int} (h1 : okB n d = true) (h2 : okB m k = true) (hlt : n * k < m * d) : Sim n d m k (btX n d m k) (btY n d m k) := by
  obtain ⟨v1, v2, v3, v4, -⟩ := okB_iff.1 h1; obtain ⟨u1, u2, u3, u4, -⟩ := okB_iff.1 h2
  by_cases hn : n < 0
  · by_cases hm : 0 < m
    · have hx : btX n d m k = 0 := by simp [btX, hn, hm]
      have hy : btY n d m k = 1 := by simp [btY, hn, hm]
      rw [hx, hy]
      refine ⟨by omega, by decide, by omega, by omega, ?_⟩
      intro u v hv _ _
      exact ⟨hv, by omega, fun e => by omega⟩
    · have hx : btX n d m k = -(smp fuelB (-m) k (-n) d).1 := by unfold btX; rw [if_neg (by omega), if_pos hn]
      have hy : btY n d m k = (smp fuelB (-m) k (-n) d).2 := by unfold btY; rw [if_neg (by omega), if_pos hn]
      have hs : Sin (-m) k (-n) d := ⟨by omega, by omega, by omega, by rw [Int.neg_mul, Int.neg_mul]; omega, by omega, by omega, by omega, by omega⟩
      have hf := fuel_ok u2 v2
      obtain ⟨i1, i2, i3⟩ := smp_min fuelB hs hf
      obtain ⟨b1, b2, b3, b4⟩ := smp_bd fuelB hs hf
      have hc := smp_cop fuelB hs hf
      rw [hx, hy]
      generalize smp fuelB (-m) k (-n) d = r at *
      rw [Int.neg_mul] at i1 i2
      refine ⟨b3, by rw [Int.natAbs_neg]; exact hc, by rw [Int.neg_mul]; omega, by rw [Int.neg_mul]; omega, ?_⟩
      intro u v hv g1 g2
      obtain ⟨j1, j2⟩ := i3 (-u) v hv (by rw [Int.neg_mul, Int.neg_mul]; omega) (by rw [Int.neg_mul, Int.neg_mul]; omega)
      exact ⟨j1, by omega, fun e => by omega⟩
  · have hx : btX n d m k = (smp fuelB n d m k).1 := by unfold btX; rw [if_neg (by omega), if_neg hn]
    have hy : btY n d m k = (smp fuelB n d m k).2 := by unfold btY; rw [if_neg (by omega), if_neg hn]
    have hs : Sin n d m k := ⟨by omega, by omega, by omega, hlt, by omega, by omega, by omega, by omega⟩
    have hf := fuel_ok v2 u2
    obtain ⟨i1, i2, i3⟩ := smp_min fuelB hs hf
    obtain ⟨b1, b2, b3, b4⟩ := smp_bd fuelB hs hf
    have hc := smp_cop fuelB hs hf
    rw [hx, hy]
    generalize smp fuelB n d m k = r at *
    refine ⟨b3, hc, i1, i2, ?_⟩
    intro u v hv g1 g2
    obtain ⟨j1, j2⟩ := i3 u v hv g1 g2
    exact ⟨j1, by omega, fun e => by omega⟩
/-- what RatioSimplest compares -/
theorem sim_law {n d m k u v : Int} (h1 : okB n d = true) (h2 : okB m k = true) (h3 : okB u v = true) (hlt : n * k < m * d) :
    ∃ N D E P Q : Int, btN n d m k = N ∧ btD n d m k = D ∧ btE n d m k = E ∧ cmpI (n * v) (u * d) = P ∧ cmpI (u * k) (m * v) = Q ∧
      -1 ≤ P ∧ P ≤ 1 ∧ -1 ≤ Q ∧ Q ≤ 1 ∧
      ((E = 2 ∧ N = 0 ∧ D = 0 ∧ ¬ (P = -1 ∧ Q = -1)) ∨
       (E = 0 ∧ okB N D = true ∧ cmpI (n * D) (N * d) = -1 ∧ cmpI (N * k) (m * D) = -1 ∧
         (P = -1 → Q = -1 → D < v ∨ (D = v ∧ N = u) ∨ (D = v ∧ N.natAbs < u.natAbs)))) := by
  have hs := sim_bt h1 h2 hlt
  obtain ⟨w1, w2, w3, w4, -⟩ := okB_iff.1 h3
  have hN : btN n d m k = mkN (btX n d m k) (btY n d m k) := by unfold btN; rw [h1, h2, decide_eq_true hlt]; rfl
  have hD : btD n d m k = mkD (btX n d m k) (btY n d m k) := by unfold btD; rw [h1, h2, decide_eq_true hlt]; rfl
  have hE : btE n d m k = mkE (btX n d m k) (btY n d m k) := by unfold btE; rw [h1, h2, if_pos hlt]; rfl
  generalize btX n d m k = X at *
  generalize btY n d m k = Y at *
  have cb : ∀ x y : Int, -1 ≤ cmpI x y ∧ cmpI x y ≤ 1 := fun x y => by
    rcases cmpI_cases x y with ⟨h1, h2⟩ | ⟨h1, h2⟩ | ⟨h1, h2⟩ <;> rw [h2] <;> omega
  have cl : ∀ x y : Int, cmpI x y = -1 → x < y := fun x y h => by
    rcases cmpI_cases x y with ⟨h1, h2⟩ | ⟨h1, h2⟩ | ⟨h1, h2⟩
    · exact h1
    · omega
    · omega
  have lc : ∀ x y : Int, x < y → cmpI x y = -1 := fun x y h => by
    rcases cmpI_cases x y with ⟨h1, h2⟩ | ⟨h1, h2⟩ | ⟨h1, h2⟩
    · exact h2
    · omega
    · omega
  refine ⟨_, _, _, _, _, rfl, rfl, rfl, rfl, rfl, (cb _ _).1, (cb _ _).2, (cb _ _).1, (cb _ _).2, ?_⟩
  have hy0 : Y ≠ 0 := by have := hs.y1; omega
  by_cases hb : X.natAbs ≤ 1073741824 ∧ Y ≤ 1073741824
  · right
    have hok : okB X Y = true := okB_iff.2 ⟨hs.y1, hb.2, by omega, by omega, hs.cop⟩
    obtain ⟨e1, e2, e3⟩ := mk_okB hok
    rw [hN, hD, hE, e1, e2, e3]
    refine ⟨rfl, hok, lc _ _ hs.lo, lc _ _ hs.hi, ?_⟩
    intro hp hq
    obtain ⟨j1, j2, j3⟩ := hs.least u v w1 (cl _ _ hp) (cl _ _ hq)
    by_cases hv : Y < v
    · exact .inl hv
    · by_cases hu : u.natAbs = X.natAbs
      · right; left; exact ⟨by omega, (j3 hu).symm⟩
      · right; right; exact ⟨by omega, by omega⟩
  · left
    have hbig : mkE X Y ≠ 0 := by
      intro he
      obtain ⟨g1, g2, g3, g4, g5⟩ := mk_spec hy0 he
      obtain ⟨a1, a2, a3, a4, a5⟩ := okB_iff.1 g1
      have hg : mkG X Y = 1 := hs.cop
      have hbg : mkBig X Y = true := by unfold mkBig; rw [hg, Nat.div_one, Nat.div_one]; have := hs.y1; simp; omega
      unfold mkE at he; rw [if_neg hy0, hbg] at he; simp at he
    obtain ⟨e1, e2, e3⟩ := mk_lim hy0 hbig
    rw [hN, hD, hE, e1, e2, e3]
    refine ⟨rfl, rfl, rfl, ?_⟩
    rintro ⟨hp, hq⟩
    obtain ⟨j1, j2, -⟩ := hs.least u v w1 (cl _ _ hp) (cl _ _ hq)
    exact hb ⟨by omega, by omega⟩
end R12
end Go.Proofs
