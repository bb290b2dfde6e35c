/- The plain law behind RatioOrder. No program. -/
import Derived.Test.YtakahkhofjpjoaaFieldMath
import Derived.Test.YtakahkhofjpjoaaCm
namespace Go.Proofs
namespace R12
theorem cmpI_cases (x y : Int) : (x < y ∧ cmpI x y = -1) ∨ (x = y ∧ cmpI x y = 0) ∨ (y < x ∧ cmpI x y = 1) := by
  unfold cmpI
  rcases Int.lt_trichotomy x y with h | h | h
  · left; exact ⟨h, if_pos h⟩
  · right; left; refine ⟨h, ?_⟩; rw [if_neg (by omega), if_neg (by omega)]
  · right; right; refine ⟨h, ?_⟩; rw [if_neg (by omega), if_pos h]
theorem cmp_scale {x y x' y' k k' : Int} (hk : 0 < k) (hk' : 0 < k') (e : (x - y) * k = (x' - y') * k') : cmpI x y = cmpI x' y' := by
  have pos : ∀ a b : Int, 0 < b → (0 < a * b ↔ 0 < a) := fun a b hb => by
    constructor
    · intro h
      rcases Int.lt_or_le 0 a with h1 | h1
      · exact h1
      · have := Int.mul_nonpos_of_nonpos_of_nonneg h1 (by omega : 0 ≤ b); omega
    · intro h; exact Int.mul_pos h hb
  have neg : ∀ a b : Int, 0 < b → (a * b < 0 ↔ a < 0) := fun a b hb => by
    constructor
    · intro h
      rcases Int.lt_or_le a 0 with h1 | h1
      · exact h1
      · have := Int.mul_nonneg h1 (by omega : 0 ≤ b); omega
    · intro h; exact Int.mul_neg_of_neg_of_pos h hb
  have p1 := pos (x - y) k hk
  have p2 := pos (x' - y') k' hk'
  have n1 := neg (x - y) k hk
  have n2 := neg (x' - y') k' hk'
  rw [e] at p1 n1
  rcases cmpI_cases x y with ⟨h1, h2⟩ | ⟨h1, h2⟩ | ⟨h1, h2⟩ <;> rcases cmpI_cases x' y' with ⟨h3, h4⟩ | ⟨h3, h4⟩ | ⟨h3, h4⟩ <;> rw [h2, h4] <;> exfalso <;> omega
theorem cmpI_neg (x y : Int) : cmpI y x = -cmpI x y := by
  rcases cmpI_cases x y with ⟨h1, h2⟩ | ⟨h1, h2⟩ | ⟨h1, h2⟩ <;> rcases cmpI_cases y x with ⟨h3, h4⟩ | ⟨h3, h4⟩ | ⟨h3, h4⟩ <;> rw [h2, h4] <;> omega
theorem val_eq {a1 a2 b1 b2 : Int} {A B A' B' : Nat} (ha : Val a1 a2 A B) (hb : Val b1 b2 A' B') (h : a1 * b2 = b1 * a2) : a1 = b1 ∧ a2 = b2 := by
  have h1 := is_self ha
  have h2 := h1.same (x' := b1) (y' := b2) (by have := ha.pos; omega) (by have := hb.pos; omega) h.symm
  have h3 := is_self hb
  exact ⟨h2.1.symm.trans h3.1, h2.2.1.symm.trans h3.2.1⟩
theorem o_trans {a1 a2 b1 b2 c1 c2 : Int} (ha : 0 < a2) (hb : 0 < b2) (hc : 0 < c2) (h1 : a1 * b2 ≤ b1 * a2) (h2 : b1 * c2 ≤ c1 * b2) : a1 * c2 ≤ c1 * a2 := by
  have k1 : a1 * b2 * c2 ≤ b1 * a2 * c2 := Int.mul_le_mul_of_nonneg_right h1 (by omega)
  have k2 : b1 * c2 * a2 ≤ c1 * b2 * a2 := Int.mul_le_mul_of_nonneg_right h2 (by omega)
  have k3 : a1 * c2 * b2 ≤ c1 * a2 * b2 := by grind
  exact Int.le_of_mul_le_mul_right k3 hb
theorem o_add {a1 a2 b1 b2 c1 c2 x1 x2 y1 y2 : Int} (ex : x1 * (a2 * c2) = (a1 * c2 + c1 * a2) * x2) (ey : y1 * (b2 * c2) = (b1 * c2 + c1 * b2) * y2) :
    (x1 * y2 - y1 * x2) * (a2 * c2 * (b2 * c2)) = (a1 * b2 - b1 * a2) * (x2 * y2 * (c2 * c2)) := by grind
theorem o_mul {a1 a2 b1 b2 c1 c2 x1 x2 y1 y2 : Int} (ex : x1 * (a2 * c2) = a1 * c1 * x2) (ey : y1 * (b2 * c2) = b1 * c1 * y2) :
    (x1 * y2 - y1 * x2) * (a2 * c2 * (b2 * c2)) = (a1 * b2 - b1 * a2) * (x2 * y2 * (c1 * c2)) := by grind
theorem o_num {a1 a2 b1 b2 X1 Y1 X2 Y2 : Int} (ea : a1 * Y1 = X1 * a2) (eb : b1 * Y2 = X2 * b2) : (X1 * Y2 - X2 * Y1) * (a2 * b2) = (a1 * b2 - b1 * a2) * (Y1 * Y2) := by grind
structure Ord (a1 a2 b1 b2 c1 c2 S T U x1 x2 y1 y2 z1 z2 v1 v2 : Int) : Prop where
  ab : cmpI (a1 * b2) (b1 * a2) = S
  ba : cmpI (b1 * a2) (a1 * b2) = -S
  bc : cmpI (b1 * c2) (c1 * b2) = T
  ac : cmpI (a1 * c2) (c1 * a2) = U
  s1 : -1 ≤ S ∧ S ≤ 1
  t1 : -1 ≤ T ∧ T ≤ 1
  u1 : -1 ≤ U ∧ U ≤ 1
  eq : S = 0 ↔ (a1 = b1 ∧ a2 = b2)
  tr : S ≤ 0 → T ≤ 0 → U ≤ 0
  vx : okB x1 x2 = true
  vy : okB y1 y2 = true
  x : Is (a1 * c2 + c1 * a2) (a2 * c2) x1 x2
  y : Is (b1 * c2 + c1 * b2) (b2 * c2) y1 y2
  xy : cmpI (x1 * y2) (y1 * x2) = S
  vz : okB z1 z2 = true
  vv : okB v1 v2 = true
  z : Is (a1 * c1) (a2 * c2) z1 z2
  v : Is (b1 * c1) (b2 * c2) v1 v2
  zv : 0 < c1 → cmpI (z1 * v2) (v1 * z2) = S
theorem ord_law {a1 a2 b1 b2 c1 c2 : Int} (ha : Val a1 a2 511 1024) (hb : Val b1 b2 511 1024) (hc : Val c1 c2 511 1024) :
    ∃ S T U x1 x2 y1 y2 z1 z2 v1 v2, Ord a1 a2 b1 b2 c1 c2 S T U x1 x2 y1 y2 z1 z2 v1 v2 := by
  have a2p := ha.pos; have b2p := hb.pos; have c2p := hc.pos
  have a2n : a2 ≠ 0 := by omega
  have b2n : b2 ≠ 0 := by omega
  have c2n : c2 ≠ 0 := by omega
  obtain ⟨x1, x2, hx, vx, ex⟩ := is_mk (x := a1 * c2 + c1 * a2) (y := a2 * c2) (A := 1046528) (B := 1048576) (nz_mul a2n c2n)
    (by have := nat_mul_le ha.n hc.d; have := nat_mul_le hc.n ha.d; omega) (by have := nat_mul_le ha.d hc.d; omega) (by omega) (by omega)
  obtain ⟨y1, y2, hy, vy, ey⟩ := is_mk (x := b1 * c2 + c1 * b2) (y := b2 * c2) (A := 1046528) (B := 1048576) (nz_mul b2n c2n)
    (by have := nat_mul_le hb.n hc.d; have := nat_mul_le hc.n hb.d; omega) (by have := nat_mul_le hb.d hc.d; omega) (by omega) (by omega)
  obtain ⟨z1, z2, hz, vz, ez⟩ := is_mk (x := a1 * c1) (y := a2 * c2) (A := 261121) (B := 1048576) (nz_mul a2n c2n)
    (by have := nat_mul_le ha.n hc.n; omega) (by have := nat_mul_le ha.d hc.d; omega) (by omega) (by omega)
  obtain ⟨v1, v2, hv, vv, ev⟩ := is_mk (x := b1 * c1) (y := b2 * c2) (A := 261121) (B := 1048576) (nz_mul b2n c2n)
    (by have := nat_mul_le hb.n hc.n; omega) (by have := nat_mul_le hb.d hc.d; omega) (by omega) (by omega)
  have x2p := vx.pos; have y2p := vy.pos; have z2p := vz.pos; have v2p := vv.pos
  have m4 : ∀ a b c d : Int, 0 < a → 0 < b → 0 < c → 0 < d → 0 < a * b * (c * d) := fun a b c d h1 h2 h3 h4 => Int.mul_pos (Int.mul_pos h1 h2) (Int.mul_pos h3 h4)
  refine ⟨_, _, _, x1, x2, y1, y2, z1, z2, v1, v2, ⟨rfl, cmpI_neg _ _, rfl, rfl, ?_, ?_, ?_, ?_, ?_, vx.ok, vy.ok, hx, hy, ?_, vz.ok, vv.ok, hz, hv, ?_⟩⟩
  · rcases cmpI_cases (a1 * b2) (b1 * a2) with ⟨h1, h2⟩ | ⟨h1, h2⟩ | ⟨h1, h2⟩ <;> rw [h2] <;> omega
  · rcases cmpI_cases (b1 * c2) (c1 * b2) with ⟨h1, h2⟩ | ⟨h1, h2⟩ | ⟨h1, h2⟩ <;> rw [h2] <;> omega
  · rcases cmpI_cases (a1 * c2) (c1 * a2) with ⟨h1, h2⟩ | ⟨h1, h2⟩ | ⟨h1, h2⟩ <;> rw [h2] <;> omega
  · constructor
    · intro h0
      rcases cmpI_cases (a1 * b2) (b1 * a2) with ⟨h1, h2⟩ | ⟨h1, h2⟩ | ⟨h1, h2⟩
      · omega
      · exact val_eq ha hb h1
      · omega
    · rintro ⟨h1, h2⟩
      rcases cmpI_cases (a1 * b2) (b1 * a2) with ⟨h3, h4⟩ | ⟨h3, h4⟩ | ⟨h3, h4⟩
      · rw [h1, h2] at h3; omega
      · exact h4
      · rw [h1, h2] at h3; omega
  · intro h1 h2
    have k1 : a1 * b2 ≤ b1 * a2 := by rcases cmpI_cases (a1 * b2) (b1 * a2) with ⟨h3, h4⟩ | ⟨h3, h4⟩ | ⟨h3, h4⟩ <;> omega
    have k2 : b1 * c2 ≤ c1 * b2 := by rcases cmpI_cases (b1 * c2) (c1 * b2) with ⟨h3, h4⟩ | ⟨h3, h4⟩ | ⟨h3, h4⟩ <;> omega
    have k3 := o_trans (by omega) (by omega) (by omega) k1 k2
    rcases cmpI_cases (a1 * c2) (c1 * a2) with ⟨h3, h4⟩ | ⟨h3, h4⟩ | ⟨h3, h4⟩ <;> omega
  · exact cmp_scale (m4 _ _ _ _ (by omega) (by omega) (by omega) (by omega)) (m4 _ _ _ _ (by omega) (by omega) (by omega) (by omega)) (o_add ex ey)
  · intro hc1
    exact cmp_scale (m4 _ _ _ _ (by omega) (by omega) (by omega) (by omega)) (m4 _ _ _ _ (by omega) (by omega) hc1 (by omega)) (o_mul ez ev)
theorem ord_num {a1 a2 b1 b2 X1 Y1 X2 Y2 : Int} (ha : 0 < a2) (hb : 0 < b2) (h1 : 0 < Y1) (h2 : 0 < Y2) (ea : a1 * Y1 = X1 * a2) (eb : b1 * Y2 = X2 * b2) :
    cmpI (X1 * Y2) (X2 * Y1) = cmpI (a1 * b2) (b1 * a2) := cmp_scale (Int.mul_pos ha hb) (Int.mul_pos h1 h2) (o_num ea eb)
end R12
end Go.Proofs
