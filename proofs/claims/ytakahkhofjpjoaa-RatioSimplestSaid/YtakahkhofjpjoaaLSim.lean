/- RatioSimplest walked. -/
import Derived.Test.YtakahkhofjpjoaaOpV
import Derived.Test.YtakahkhofjpjoaaSimMath
namespace Go.Proofs
open Go.RowKit Go.Shelf Go.Kin
namespace R12
set_option maxRecDepth 100000 in
set_option maxHeartbeats 4000000 in
theorem simplest_b (n d m k u v : Int) (w : World) (hb : (okB n d && okB m k) = false) :
    Calls Try.prog 5 #[.agg #[.int .i64 n, .int .i64 d], .agg #[.int .i64 m, .int .i64 k], .agg #[.int .i64 u, .int .i64 v]] w fun e w' => e = .returned (.bool true) ∧ Below w.heap.size w w' := by
  have HB := Lib.hid hb; clear hb
  have hB_0 := Below.refl w.heap.size w
  go_enter Try.func5, Try.ntmps5
  go_wp2_with fail
  obtain ⟨w1, hw_1⟩ : ∃ w1, (((w.alloc (Obj.cells #[Value.int IntKind.i64 n, Value.int IntKind.i64 d] 23)).alloc (Obj.cells #[Value.int IntKind.i64 m, Value.int IntKind.i64 k] 23)).alloc (Obj.cells #[Value.int IntKind.i64 u, Value.int IntKind.i64 v] 23)) = w1 := ⟨_, rfl⟩
  rw [hw_1]
  have hl_1 : Later w w1 := by rw [← hw_1]; exact (Kin.Below.allocC (Kin.Below.allocC (Kin.Below.allocC (Below.refl _ _) (Nat.le_refl _)) (by simp)) (by simp; omega))
  have a0_1 : w1.cell? ⟨w.heap.size, 0, none⟩ = some (.int .i64 n) := by rw [← hw_1]; simp [go_sem]
  have a1_1 : w1.cell? ⟨w.heap.size, 1, none⟩ = some (.int .i64 d) := by rw [← hw_1]; simp [go_sem]
  have b0_1 : w1.cell? ⟨w.heap.size + 1, 0, none⟩ = some (.int .i64 m) := by rw [← hw_1]; simp [go_sem]
  have b1_1 : w1.cell? ⟨w.heap.size + 1, 1, none⟩ = some (.int .i64 k) := by rw [← hw_1]; simp [go_sem]
  have c0_1 : w1.cell? ⟨w.heap.size + 1 + 1, 0, none⟩ = some (.int .i64 u) := by rw [← hw_1]; simp [go_sem]
  have c1_1 : w1.cell? ⟨w.heap.size + 1 + 1, 1, none⟩ = some (.int .i64 v) := by rw [← hw_1]; simp [go_sem]
  have hy_1 : w.heap.size + 3 = w1.heap.size := by rw [← hw_1]; simp
  clear hw_1
  have hB_1 := Later.below hl_1 hB_0 (by omega)
  have hz_1 := Later.size hl_1
  clear hl_1  hB_0
  refine (sane_any _).mono ?_
  rintro e w2 ⟨rfl, hl_2⟩
  have a0_2 := Later.cell hl_2 a0_1
  have a1_2 := Later.cell hl_2 a1_1
  have b0_2 := Later.cell hl_2 b0_1
  have b1_2 := Later.cell hl_2 b1_1
  have c0_2 := Later.cell hl_2 c0_1
  have c1_2 := Later.cell hl_2 c1_1
  have lt0_2 : w.heap.size < w2.heap.size := lt_of_cell a0_2
  have lt1_2 : w.heap.size + 1 < w2.heap.size := lt_of_cell b0_2
  have lt2_2 : w.heap.size + 1 + 1 < w2.heap.size := lt_of_cell c0_2
  have hB_2 := Later.below hl_2 hB_1 (by omega)
  have hz_2 := Later.size hl_2
  clear hl_2 a0_1 a1_1 b0_1 b1_1 c0_1 c1_1 hB_1
  go_wp2_with fail
  refine (both_any n d m k _).mono ?_
  rintro e w3 ⟨rfl, hl_3⟩
  rw [HB.out]
  have a0_3 := Later.cell hl_3 a0_2
  have a1_3 := Later.cell hl_3 a1_2
  have b0_3 := Later.cell hl_3 b0_2
  have b1_3 := Later.cell hl_3 b1_2
  have c0_3 := Later.cell hl_3 c0_2
  have c1_3 := Later.cell hl_3 c1_2
  clear lt0_2
  clear lt1_2
  clear lt2_2
  have lt0_3 : w.heap.size < w3.heap.size := lt_of_cell a0_3
  have lt1_3 : w.heap.size + 1 < w3.heap.size := lt_of_cell b0_3
  have lt2_3 : w.heap.size + 1 + 1 < w3.heap.size := lt_of_cell c0_3
  have hB_3 := Later.below hl_3 hB_2 (by omega)
  have hz_3 := Later.size hl_3
  clear hl_3 a0_2 a1_2 b0_2 b1_2 c0_2 c1_2 hB_2
  go_wp2
  go_ret
  exact ⟨rfl, hB_3⟩
set_option maxRecDepth 100000 in
set_option maxHeartbeats 4000000 in
theorem simplest_c (n d m k u v : Int) (w : World) (hb : (okB n d && okB m k) = true) (hc : okB u v = false) :
    Calls Try.prog 5 #[.agg #[.int .i64 n, .int .i64 d], .agg #[.int .i64 m, .int .i64 k], .agg #[.int .i64 u, .int .i64 v]] w fun e w' => e = .returned (.bool true) ∧ Below w.heap.size w w' := by
  have HB := Lib.hid hb; clear hb
  have HC := Lib.hid hc; clear hc
  have hB_0 := Below.refl w.heap.size w
  go_enter Try.func5, Try.ntmps5
  go_wp2_with fail
  obtain ⟨w1, hw_1⟩ : ∃ w1, (((w.alloc (Obj.cells #[Value.int IntKind.i64 n, Value.int IntKind.i64 d] 23)).alloc (Obj.cells #[Value.int IntKind.i64 m, Value.int IntKind.i64 k] 23)).alloc (Obj.cells #[Value.int IntKind.i64 u, Value.int IntKind.i64 v] 23)) = w1 := ⟨_, rfl⟩
  rw [hw_1]
  have hl_1 : Later w w1 := by rw [← hw_1]; exact (Kin.Below.allocC (Kin.Below.allocC (Kin.Below.allocC (Below.refl _ _) (Nat.le_refl _)) (by simp)) (by simp; omega))
  have a0_1 : w1.cell? ⟨w.heap.size, 0, none⟩ = some (.int .i64 n) := by rw [← hw_1]; simp [go_sem]
  have a1_1 : w1.cell? ⟨w.heap.size, 1, none⟩ = some (.int .i64 d) := by rw [← hw_1]; simp [go_sem]
  have b0_1 : w1.cell? ⟨w.heap.size + 1, 0, none⟩ = some (.int .i64 m) := by rw [← hw_1]; simp [go_sem]
  have b1_1 : w1.cell? ⟨w.heap.size + 1, 1, none⟩ = some (.int .i64 k) := by rw [← hw_1]; simp [go_sem]
  have c0_1 : w1.cell? ⟨w.heap.size + 1 + 1, 0, none⟩ = some (.int .i64 u) := by rw [← hw_1]; simp [go_sem]
  have c1_1 : w1.cell? ⟨w.heap.size + 1 + 1, 1, none⟩ = some (.int .i64 v) := by rw [← hw_1]; simp [go_sem]
  have hy_1 : w.heap.size + 3 = w1.heap.size := by rw [← hw_1]; simp
  clear hw_1
  have hB_1 := Later.below hl_1 hB_0 (by omega)
  have hz_1 := Later.size hl_1
  clear hl_1  hB_0
  refine (sane_any _).mono ?_
  rintro e w2 ⟨rfl, hl_2⟩
  have a0_2 := Later.cell hl_2 a0_1
  have a1_2 := Later.cell hl_2 a1_1
  have b0_2 := Later.cell hl_2 b0_1
  have b1_2 := Later.cell hl_2 b1_1
  have c0_2 := Later.cell hl_2 c0_1
  have c1_2 := Later.cell hl_2 c1_1
  have lt0_2 : w.heap.size < w2.heap.size := lt_of_cell a0_2
  have lt1_2 : w.heap.size + 1 < w2.heap.size := lt_of_cell b0_2
  have lt2_2 : w.heap.size + 1 + 1 < w2.heap.size := lt_of_cell c0_2
  have hB_2 := Later.below hl_2 hB_1 (by omega)
  have hz_2 := Later.size hl_2
  clear hl_2 a0_1 a1_1 b0_1 b1_1 c0_1 c1_1 hB_1
  go_wp2_with fail
  refine (both_any n d m k _).mono ?_
  rintro e w3 ⟨rfl, hl_3⟩
  rw [HB.out]
  have a0_3 := Later.cell hl_3 a0_2
  have a1_3 := Later.cell hl_3 a1_2
  have b0_3 := Later.cell hl_3 b0_2
  have b1_3 := Later.cell hl_3 b1_2
  have c0_3 := Later.cell hl_3 c0_2
  have c1_3 := Later.cell hl_3 c1_2
  clear lt0_2
  clear lt1_2
  clear lt2_2
  have lt0_3 : w.heap.size < w3.heap.size := lt_of_cell a0_3
  have lt1_3 : w.heap.size + 1 < w3.heap.size := lt_of_cell b0_3
  have lt2_3 : w.heap.size + 1 + 1 < w3.heap.size := lt_of_cell c0_3
  have hB_3 := Later.below hl_3 hB_2 (by omega)
  have hz_3 := Later.size hl_3
  clear hl_3 a0_2 a1_2 b0_2 b1_2 c0_2 c1_2 hB_2
  go_wp2_with fail
  refine (valid_any u v _).mono ?_
  rintro e w4 ⟨rfl, hl_4⟩
  rw [HC.out]
  have a0_4 := Later.cell hl_4 a0_3
  have a1_4 := Later.cell hl_4 a1_3
  have b0_4 := Later.cell hl_4 b0_3
  have b1_4 := Later.cell hl_4 b1_3
  have c0_4 := Later.cell hl_4 c0_3
  have c1_4 := Later.cell hl_4 c1_3
  clear lt0_3
  clear lt1_3
  clear lt2_3
  have lt0_4 : w.heap.size < w4.heap.size := lt_of_cell a0_4
  have lt1_4 : w.heap.size + 1 < w4.heap.size := lt_of_cell b0_4
  have lt2_4 : w.heap.size + 1 + 1 < w4.heap.size := lt_of_cell c0_4
  have hB_4 := Later.below hl_4 hB_3 (by omega)
  have hz_4 := Later.size hl_4
  clear hl_4 a0_3 a1_3 b0_3 b1_3 c0_3 c1_3 hB_3
  go_wp2
  go_ret
  exact ⟨rfl, hB_4⟩
set_option maxRecDepth 100000 in
set_option maxHeartbeats 4000000 in
theorem simplest_l (n d m k u v : Int) (w : World) (hb : (okB n d && okB m k) = true) (hc : okB u v = true) (hl : ¬ n * k < m * d) :
    Calls Try.prog 5 #[.agg #[.int .i64 n, .int .i64 d], .agg #[.int .i64 m, .int .i64 k], .agg #[.int .i64 u, .int .i64 v]] w fun e w' => e = .returned (.bool true) ∧ Below w.heap.size w w' := by
  have hb' := hb
  rw [Bool.and_eq_true] at hb'
  obtain ⟨v1, v2, v3, v4, -⟩ := okB_iff.1 hb'.1; obtain ⟨u1, u2, u3, u4, -⟩ := okB_iff.1 hb'.2
  have HB := Lib.hid hb; clear hb hb'
  have HC := Lib.hid hc; clear hc
  have HL : Hid (decide (n * k < m * d) = false) := Lib.hid (by simp; omega)
  clear hl
  have hB_0 := Below.refl w.heap.size w
  go_enter Try.func5, Try.ntmps5
  go_wp2_with fail
  obtain ⟨w1, hw_1⟩ : ∃ w1, (((w.alloc (Obj.cells #[Value.int IntKind.i64 n, Value.int IntKind.i64 d] 23)).alloc (Obj.cells #[Value.int IntKind.i64 m, Value.int IntKind.i64 k] 23)).alloc (Obj.cells #[Value.int IntKind.i64 u, Value.int IntKind.i64 v] 23)) = w1 := ⟨_, rfl⟩
  rw [hw_1]
  have hl_1 : Later w w1 := by rw [← hw_1]; exact (Kin.Below.allocC (Kin.Below.allocC (Kin.Below.allocC (Below.refl _ _) (Nat.le_refl _)) (by simp)) (by simp; omega))
  have a0_1 : w1.cell? ⟨w.heap.size, 0, none⟩ = some (.int .i64 n) := by rw [← hw_1]; simp [go_sem]
  have a1_1 : w1.cell? ⟨w.heap.size, 1, none⟩ = some (.int .i64 d) := by rw [← hw_1]; simp [go_sem]
  have b0_1 : w1.cell? ⟨w.heap.size + 1, 0, none⟩ = some (.int .i64 m) := by rw [← hw_1]; simp [go_sem]
  have b1_1 : w1.cell? ⟨w.heap.size + 1, 1, none⟩ = some (.int .i64 k) := by rw [← hw_1]; simp [go_sem]
  have c0_1 : w1.cell? ⟨w.heap.size + 1 + 1, 0, none⟩ = some (.int .i64 u) := by rw [← hw_1]; simp [go_sem]
  have c1_1 : w1.cell? ⟨w.heap.size + 1 + 1, 1, none⟩ = some (.int .i64 v) := by rw [← hw_1]; simp [go_sem]
  have hy_1 : w.heap.size + 3 = w1.heap.size := by rw [← hw_1]; simp
  clear hw_1
  have hB_1 := Later.below hl_1 hB_0 (by omega)
  have hz_1 := Later.size hl_1
  clear hl_1  hB_0
  refine (sane_any _).mono ?_
  rintro e w2 ⟨rfl, hl_2⟩
  have a0_2 := Later.cell hl_2 a0_1
  have a1_2 := Later.cell hl_2 a1_1
  have b0_2 := Later.cell hl_2 b0_1
  have b1_2 := Later.cell hl_2 b1_1
  have c0_2 := Later.cell hl_2 c0_1
  have c1_2 := Later.cell hl_2 c1_1
  have lt0_2 : w.heap.size < w2.heap.size := lt_of_cell a0_2
  have lt1_2 : w.heap.size + 1 < w2.heap.size := lt_of_cell b0_2
  have lt2_2 : w.heap.size + 1 + 1 < w2.heap.size := lt_of_cell c0_2
  have hB_2 := Later.below hl_2 hB_1 (by omega)
  have hz_2 := Later.size hl_2
  clear hl_2 a0_1 a1_1 b0_1 b1_1 c0_1 c1_1 hB_1
  go_wp2_with fail
  refine (both_any n d m k _).mono ?_
  rintro e w3 ⟨rfl, hl_3⟩
  rw [HB.out]
  have a0_3 := Later.cell hl_3 a0_2
  have a1_3 := Later.cell hl_3 a1_2
  have b0_3 := Later.cell hl_3 b0_2
  have b1_3 := Later.cell hl_3 b1_2
  have c0_3 := Later.cell hl_3 c0_2
  have c1_3 := Later.cell hl_3 c1_2
  clear lt0_2
  clear lt1_2
  clear lt2_2
  have lt0_3 : w.heap.size < w3.heap.size := lt_of_cell a0_3
  have lt1_3 : w.heap.size + 1 < w3.heap.size := lt_of_cell b0_3
  have lt2_3 : w.heap.size + 1 + 1 < w3.heap.size := lt_of_cell c0_3
  have hB_3 := Later.below hl_3 hB_2 (by omega)
  have hz_3 := Later.size hl_3
  clear hl_3 a0_2 a1_2 b0_2 b1_2 c0_2 c1_2 hB_2
  go_wp2_with fail
  refine (valid_any u v _).mono ?_
  rintro e w4 ⟨rfl, hl_4⟩
  rw [HC.out]
  have a0_4 := Later.cell hl_4 a0_3
  have a1_4 := Later.cell hl_4 a1_3
  have b0_4 := Later.cell hl_4 b0_3
  have b1_4 := Later.cell hl_4 b1_3
  have c0_4 := Later.cell hl_4 c0_3
  have c1_4 := Later.cell hl_4 c1_3
  clear lt0_3
  clear lt1_3
  clear lt2_3
  have lt0_4 : w.heap.size < w4.heap.size := lt_of_cell a0_4
  have lt1_4 : w.heap.size + 1 < w4.heap.size := lt_of_cell b0_4
  have lt2_4 : w.heap.size + 1 + 1 < w4.heap.size := lt_of_cell c0_4
  have hB_4 := Later.below hl_4 hB_3 (by omega)
  have hz_4 := Later.size hl_4
  clear hl_4 a0_3 a1_3 b0_3 b1_3 c0_3 c1_3 hB_3
  go_wp2_with fail
  refine (less_any n d m k _ (by omega) (by omega) (by omega) (by omega) (by omega) (by omega) (by omega) (by omega)).mono ?_
  rintro e w5 ⟨rfl, hl_5⟩
  rw [HL.out]
  have a0_5 := Later.cell hl_5 a0_4
  have a1_5 := Later.cell hl_5 a1_4
  have b0_5 := Later.cell hl_5 b0_4
  have b1_5 := Later.cell hl_5 b1_4
  have c0_5 := Later.cell hl_5 c0_4
  have c1_5 := Later.cell hl_5 c1_4
  clear lt0_4
  clear lt1_4
  clear lt2_4
  have lt0_5 : w.heap.size < w5.heap.size := lt_of_cell a0_5
  have lt1_5 : w.heap.size + 1 < w5.heap.size := lt_of_cell b0_5
  have lt2_5 : w.heap.size + 1 + 1 < w5.heap.size := lt_of_cell c0_5
  have hB_5 := Later.below hl_5 hB_4 (by omega)
  have hz_5 := Later.size hl_5
  clear hl_5 a0_4 a1_4 b0_4 b1_4 c0_4 c1_4 hB_4
  go_wp2
  go_ret
  exact ⟨rfl, hB_5⟩
set_option maxRecDepth 100000 in
set_option maxHeartbeats 4000000 in
theorem simplest_ok (n d m k u v : Int) (w : World) (hb : (okB n d && okB m k) = true) (hc : okB u v = true) (hl : n * k < m * d) :
    Calls Try.prog 5 #[.agg #[.int .i64 n, .int .i64 d], .agg #[.int .i64 m, .int .i64 k], .agg #[.int .i64 u, .int .i64 v]] w fun e w' => e = .returned (.bool true) ∧ Below w.heap.size w w' := by
  have hb' := hb
  rw [Bool.and_eq_true] at hb'
  obtain ⟨v1, v2, v3, v4, -⟩ := okB_iff.1 hb'.1; obtain ⟨u1, u2, u3, u4, -⟩ := okB_iff.1 hb'.2
  obtain ⟨y1, y2, y3, y4, -⟩ := okB_iff.1 hc
  obtain ⟨N, D, E, P, Q, e1, e2, e3, e4, e5, p1, p2, q1, q2, hcs⟩ := sim_law hb'.1 hb'.2 hc hl
  have HA1 := Lib.hid hb'.1; have HA2 := Lib.hid hb'.2
  have HB := Lib.hid hb; clear hb hb'
  have HC := Lib.hid hc; clear hc
  have HL : Hid (decide (n * k < m * d) = true) := Lib.hid (by simp [hl])
  clear hl
  have HBT : Hid (btN n d m k = N ∧ btD n d m k = D ∧ btE n d m k = E) := Lib.hid ⟨e1, e2, e3⟩
  have HP := Lib.hid e4; have HQ := Lib.hid e5
  have HCS := Lib.hid hcs
  clear e1 e2 e3 e4 e5 hcs
  have hB_0 := Below.refl w.heap.size w
  go_enter Try.func5, Try.ntmps5
  go_wp2_with fail
  obtain ⟨w1, hw_1⟩ : ∃ w1, (((w.alloc (Obj.cells #[Value.int IntKind.i64 n, Value.int IntKind.i64 d] 23)).alloc (Obj.cells #[Value.int IntKind.i64 m, Value.int IntKind.i64 k] 23)).alloc (Obj.cells #[Value.int IntKind.i64 u, Value.int IntKind.i64 v] 23)) = w1 := ⟨_, rfl⟩
  rw [hw_1]
  have hl_1 : Later w w1 := by rw [← hw_1]; exact (Kin.Below.allocC (Kin.Below.allocC (Kin.Below.allocC (Below.refl _ _) (Nat.le_refl _)) (by simp)) (by simp; omega))
  have a0_1 : w1.cell? ⟨w.heap.size, 0, none⟩ = some (.int .i64 n) := by rw [← hw_1]; simp [go_sem]
  have a1_1 : w1.cell? ⟨w.heap.size, 1, none⟩ = some (.int .i64 d) := by rw [← hw_1]; simp [go_sem]
  have b0_1 : w1.cell? ⟨w.heap.size + 1, 0, none⟩ = some (.int .i64 m) := by rw [← hw_1]; simp [go_sem]
  have b1_1 : w1.cell? ⟨w.heap.size + 1, 1, none⟩ = some (.int .i64 k) := by rw [← hw_1]; simp [go_sem]
  have c0_1 : w1.cell? ⟨w.heap.size + 1 + 1, 0, none⟩ = some (.int .i64 u) := by rw [← hw_1]; simp [go_sem]
  have c1_1 : w1.cell? ⟨w.heap.size + 1 + 1, 1, none⟩ = some (.int .i64 v) := by rw [← hw_1]; simp [go_sem]
  have hy_1 : w.heap.size + 3 = w1.heap.size := by rw [← hw_1]; simp
  clear hw_1
  have hB_1 := Later.below hl_1 hB_0 (by omega)
  have hz_1 := Later.size hl_1
  clear hl_1  hB_0
  refine (sane_any _).mono ?_
  rintro e w2 ⟨rfl, hl_2⟩
  have a0_2 := Later.cell hl_2 a0_1
  have a1_2 := Later.cell hl_2 a1_1
  have b0_2 := Later.cell hl_2 b0_1
  have b1_2 := Later.cell hl_2 b1_1
  have c0_2 := Later.cell hl_2 c0_1
  have c1_2 := Later.cell hl_2 c1_1
  have lt0_2 : w.heap.size < w2.heap.size := lt_of_cell a0_2
  have lt1_2 : w.heap.size + 1 < w2.heap.size := lt_of_cell b0_2
  have lt2_2 : w.heap.size + 1 + 1 < w2.heap.size := lt_of_cell c0_2
  have hB_2 := Later.below hl_2 hB_1 (by omega)
  have hz_2 := Later.size hl_2
  clear hl_2 a0_1 a1_1 b0_1 b1_1 c0_1 c1_1 hB_1
  go_wp2_with fail
  refine (both_any n d m k _).mono ?_
  rintro e w3 ⟨rfl, hl_3⟩
  rw [HB.out]
  have a0_3 := Later.cell hl_3 a0_2
  have a1_3 := Later.cell hl_3 a1_2
  have b0_3 := Later.cell hl_3 b0_2
  have b1_3 := Later.cell hl_3 b1_2
  have c0_3 := Later.cell hl_3 c0_2
  have c1_3 := Later.cell hl_3 c1_2
  clear lt0_2
  clear lt1_2
  clear lt2_2
  have lt0_3 : w.heap.size < w3.heap.size := lt_of_cell a0_3
  have lt1_3 : w.heap.size + 1 < w3.heap.size := lt_of_cell b0_3
  have lt2_3 : w.heap.size + 1 + 1 < w3.heap.size := lt_of_cell c0_3
  have hB_3 := Later.below hl_3 hB_2 (by omega)
  have hz_3 := Later.size hl_3
  clear hl_3 a0_2 a1_2 b0_2 b1_2 c0_2 c1_2 hB_2
  go_wp2_with fail
  refine (valid_any u v _).mono ?_
  rintro e w4 ⟨rfl, hl_4⟩
  rw [HC.out]
  have a0_4 := Later.cell hl_4 a0_3
  have a1_4 := Later.cell hl_4 a1_3
  have b0_4 := Later.cell hl_4 b0_3
  have b1_4 := Later.cell hl_4 b1_3
  have c0_4 := Later.cell hl_4 c0_3
  have c1_4 := Later.cell hl_4 c1_3
  clear lt0_3
  clear lt1_3
  clear lt2_3
  have lt0_4 : w.heap.size < w4.heap.size := lt_of_cell a0_4
  have lt1_4 : w.heap.size + 1 < w4.heap.size := lt_of_cell b0_4
  have lt2_4 : w.heap.size + 1 + 1 < w4.heap.size := lt_of_cell c0_4
  have hB_4 := Later.below hl_4 hB_3 (by omega)
  have hz_4 := Later.size hl_4
  clear hl_4 a0_3 a1_3 b0_3 b1_3 c0_3 c1_3 hB_3
  go_wp2_with fail
  refine (less_any n d m k _ (by omega) (by omega) (by omega) (by omega) (by omega) (by omega) (by omega) (by omega)).mono ?_
  rintro e w5 ⟨rfl, hl_5⟩
  rw [HL.out]
  have a0_5 := Later.cell hl_5 a0_4
  have a1_5 := Later.cell hl_5 a1_4
  have b0_5 := Later.cell hl_5 b0_4
  have b1_5 := Later.cell hl_5 b1_4
  have c0_5 := Later.cell hl_5 c0_4
  have c1_5 := Later.cell hl_5 c1_4
  clear lt0_4
  clear lt1_4
  clear lt2_4
  have lt0_5 : w.heap.size < w5.heap.size := lt_of_cell a0_5
  have lt1_5 : w.heap.size + 1 < w5.heap.size := lt_of_cell b0_5
  have lt2_5 : w.heap.size + 1 + 1 < w5.heap.size := lt_of_cell c0_5
  have hB_5 := Later.below hl_5 hB_4 (by omega)
  have hz_5 := Later.size hl_5
  clear hl_5 a0_4 a1_4 b0_4 b1_4 c0_4 c1_4 hB_4
  go_wp2_with fail
  refine (between_any n d m k _ (I64_of_ok HA1.out).1 (I64_of_ok HA1.out).2 (I64_of_ok HA2.out).1 (I64_of_ok HA2.out).2).mono ?_
  rintro e w6 ⟨rfl, hl_6⟩
  rw [HBT.out.1, HBT.out.2.1, HBT.out.2.2]
  have a0_6 := Later.cell hl_6 a0_5
  have a1_6 := Later.cell hl_6 a1_5
  have b0_6 := Later.cell hl_6 b0_5
  have b1_6 := Later.cell hl_6 b1_5
  have c0_6 := Later.cell hl_6 c0_5
  have c1_6 := Later.cell hl_6 c1_5
  clear lt0_5
  clear lt1_5
  clear lt2_5
  have lt0_6 : w.heap.size < w6.heap.size := lt_of_cell a0_6
  have lt1_6 : w.heap.size + 1 < w6.heap.size := lt_of_cell b0_6
  have lt2_6 : w.heap.size + 1 + 1 < w6.heap.size := lt_of_cell c0_6
  have hB_6 := Later.below hl_6 hB_5 (by omega)
  have hz_6 := Later.size hl_6
  clear hl_6 a0_5 a1_5 b0_5 b1_5 c0_5 c1_5 hB_5
  go_wp2_with fail
  obtain ⟨w7, hw_7⟩ : ∃ w7, (w6.alloc (Obj.cells #[Value.int IntKind.i64 N, Value.int IntKind.i64 D] 23)) = w7 := ⟨_, rfl⟩
  rw [hw_7]
  have hl_7 : Later w6 w7 := by rw [← hw_7]; exact (Kin.Below.allocC (Below.refl _ _) (Nat.le_refl _))
  have r0_7 : w7.cell? ⟨w6.heap.size, 0, none⟩ = some (.int .i64 N) := by rw [← hw_7]; simp [go_sem]
  have r1_7 : w7.cell? ⟨w6.heap.size, 1, none⟩ = some (.int .i64 D) := by rw [← hw_7]; simp [go_sem]
  have hy_7 : w6.heap.size + 1 = w7.heap.size := by rw [← hw_7]; simp
  clear hw_7
  have a0_7 := Later.cell hl_7 a0_6
  have a1_7 := Later.cell hl_7 a1_6
  have b0_7 := Later.cell hl_7 b0_6
  have b1_7 := Later.cell hl_7 b1_6
  have c0_7 := Later.cell hl_7 c0_6
  have c1_7 := Later.cell hl_7 c1_6
  clear lt0_6
  clear lt1_6
  clear lt2_6
  have lt0_7 : w.heap.size < w7.heap.size := lt_of_cell a0_7
  have lt1_7 : w.heap.size + 1 < w7.heap.size := lt_of_cell b0_7
  have lt2_7 : w.heap.size + 1 + 1 < w7.heap.size := lt_of_cell c0_7
  have hB_7 := Later.below hl_7 hB_6 (by omega)
  have hz_7 := Later.size hl_7
  clear hl_7 a0_6 a1_6 b0_6 b1_6 c0_6 c1_6 hB_6
  refine (cmpv HA1.out HC.out HP.out _).mono ?_
  rintro e w8 ⟨rfl, hl_8⟩
  have a0_8 := Later.cell hl_8 a0_7
  have a1_8 := Later.cell hl_8 a1_7
  have b0_8 := Later.cell hl_8 b0_7
  have b1_8 := Later.cell hl_8 b1_7
  have c0_8 := Later.cell hl_8 c0_7
  have c1_8 := Later.cell hl_8 c1_7
  have r0_8 := Later.cell hl_8 r0_7
  have r1_8 := Later.cell hl_8 r1_7
  clear lt0_7
  clear lt1_7
  clear lt2_7
  have lt0_8 : w.heap.size < w8.heap.size := lt_of_cell a0_8
  have lt1_8 : w.heap.size + 1 < w8.heap.size := lt_of_cell b0_8
  have lt2_8 : w.heap.size + 1 + 1 < w8.heap.size := lt_of_cell c0_8
  have lt3_8 : w6.heap.size < w8.heap.size := lt_of_cell r0_8
  have hB_8 := Later.below hl_8 hB_7 (by omega)
  have hz_8 := Later.size hl_8
  clear hl_8 a0_7 a1_7 b0_7 b1_7 c0_7 c1_7 r0_7 r1_7 hB_7
  go_wp2_with fail
  refine (cmpv HC.out HA2.out HQ.out _).mono ?_
  rintro e w9 ⟨rfl, hl_9⟩
  have a0_9 := Later.cell hl_9 a0_8
  have a1_9 := Later.cell hl_9 a1_8
  have b0_9 := Later.cell hl_9 b0_8
  have b1_9 := Later.cell hl_9 b1_8
  have c0_9 := Later.cell hl_9 c0_8
  have c1_9 := Later.cell hl_9 c1_8
  have r0_9 := Later.cell hl_9 r0_8
  have r1_9 := Later.cell hl_9 r1_8
  clear lt0_8
  clear lt1_8
  clear lt2_8
  clear lt3_8
  have lt0_9 : w.heap.size < w9.heap.size := lt_of_cell a0_9
  have lt1_9 : w.heap.size + 1 < w9.heap.size := lt_of_cell b0_9
  have lt2_9 : w.heap.size + 1 + 1 < w9.heap.size := lt_of_cell c0_9
  have lt3_9 : w6.heap.size < w9.heap.size := lt_of_cell r0_9
  have hB_9 := Later.below hl_9 hB_8 (by omega)
  have hz_9 := Later.size hl_9
  clear hl_9 a0_8 a1_8 b0_8 b1_8 c0_8 c1_8 r0_8 r1_8 hB_8
  go_wp2_with fail
  obtain ⟨w10, hw_10⟩ : ∃ w10, (w9.alloc (Obj.cells #[Value.int IntKind.i64 0, Value.int IntKind.i64 0] 25)) = w10 := ⟨_, rfl⟩
  rw [hw_10]
  have hl_10 : Later w9 w10 := by rw [← hw_10]; exact (Kin.Below.allocC (Below.refl _ _) (Nat.le_refl _))
  have l0_10 : w10.cell? ⟨w9.heap.size, 0, none⟩ = some (.int .i64 0) := by rw [← hw_10]; simp [go_sem]
  have l1_10 : w10.cell? ⟨w9.heap.size, 1, none⟩ = some (.int .i64 0) := by rw [← hw_10]; simp [go_sem]
  have hy_10 : w9.heap.size + 1 = w10.heap.size := by rw [← hw_10]; simp
  clear hw_10
  have a0_10 := Later.cell hl_10 a0_9
  have a1_10 := Later.cell hl_10 a1_9
  have b0_10 := Later.cell hl_10 b0_9
  have b1_10 := Later.cell hl_10 b1_9
  have c0_10 := Later.cell hl_10 c0_9
  have c1_10 := Later.cell hl_10 c1_9
  have r0_10 := Later.cell hl_10 r0_9
  have r1_10 := Later.cell hl_10 r1_9
  clear lt0_9
  clear lt1_9
  clear lt2_9
  clear lt3_9
  have lt0_10 : w.heap.size < w10.heap.size := lt_of_cell a0_10
  have lt1_10 : w.heap.size + 1 < w10.heap.size := lt_of_cell b0_10
  have lt2_10 : w.heap.size + 1 + 1 < w10.heap.size := lt_of_cell c0_10
  have lt3_10 : w6.heap.size < w10.heap.size := lt_of_cell r0_10
  have hB_10 := Later.below hl_10 hB_9 (by omega)
  have hz_10 := Later.size hl_10
  clear hl_10 a0_9 a1_9 b0_9 b1_9 c0_9 c1_9 r0_9 r1_9 hB_9
  refine (all_zero _ 2 2 _ (by omega) (fun i hi => by match i, hi with | 0, _ => assumption | 1, _ => assumption)).mono ?_
  rintro e w' ⟨rfl, rfl⟩
  clear l0_10
  clear l1_10
  by_cases hp : P = -1 <;> by_cases hq : Q = -1
  all_goals
    rcases HCS.out with ⟨rfl, rfl, rfl, hn⟩ | ⟨rfl, hnd, hr1, hr2, hf⟩
    · first
        | (exfalso; exact hn ⟨hp, hq⟩)
        | (clear hn
           go_wp2
           all_goals (go_ret; refine ⟨?_, hB_10⟩; first | rfl | (refine ret_val ?_; show Value.bool _ = _; congr 1; simp; omega)))
    · obtain ⟨x1, x2, x3, x4, -⟩ := okB_iff.1 hnd
      have HND := Lib.hid hnd; have HR1 := Lib.hid hr1; have HR2 := Lib.hid hr2; have HF := Lib.hid hf
      clear hnd hr1 hr2 hf
      go_wp2_with fail
      refine (cmpv HA1.out HND.out HR1.out _).mono ?_
      rintro e w11 ⟨rfl, hl_11⟩
      have a0_11 := Later.cell hl_11 a0_10
      have a1_11 := Later.cell hl_11 a1_10
      have b0_11 := Later.cell hl_11 b0_10
      have b1_11 := Later.cell hl_11 b1_10
      have c0_11 := Later.cell hl_11 c0_10
      have c1_11 := Later.cell hl_11 c1_10
      have r0_11 := Later.cell hl_11 r0_10
      have r1_11 := Later.cell hl_11 r1_10
      clear lt0_10
      clear lt1_10
      clear lt2_10
      clear lt3_10
      have lt0_11 : w.heap.size < w11.heap.size := lt_of_cell a0_11
      have lt1_11 : w.heap.size + 1 < w11.heap.size := lt_of_cell b0_11
      have lt2_11 : w.heap.size + 1 + 1 < w11.heap.size := lt_of_cell c0_11
      have lt3_11 : w6.heap.size < w11.heap.size := lt_of_cell r0_11
      have hB_11 := Later.below hl_11 hB_10 (by omega)
      have hz_11 := Later.size hl_11
      clear hl_11 a0_10 a1_10 b0_10 b1_10 c0_10 c1_10 r0_10 r1_10 hB_10
      go_wp2_with fail
      refine (cmpv HND.out HA2.out HR2.out _).mono ?_
      rintro e w12 ⟨rfl, hl_12⟩
      have a0_12 := Later.cell hl_12 a0_11
      have a1_12 := Later.cell hl_12 a1_11
      have b0_12 := Later.cell hl_12 b0_11
      have b1_12 := Later.cell hl_12 b1_11
      have c0_12 := Later.cell hl_12 c0_11
      have c1_12 := Later.cell hl_12 c1_11
      have r0_12 := Later.cell hl_12 r0_11
      have r1_12 := Later.cell hl_12 r1_11
      clear lt0_11
      clear lt1_11
      clear lt2_11
      clear lt3_11
      have lt0_12 : w.heap.size < w12.heap.size := lt_of_cell a0_12
      have lt1_12 : w.heap.size + 1 < w12.heap.size := lt_of_cell b0_12
      have lt2_12 : w.heap.size + 1 + 1 < w12.heap.size := lt_of_cell c0_12
      have lt3_12 : w6.heap.size < w12.heap.size := lt_of_cell r0_12
      have hB_12 := Later.below hl_12 hB_11 (by omega)
      have hz_12 := Later.size hl_12
      clear hl_12 a0_11 a1_11 b0_11 b1_11 c0_11 c1_11 r0_11 r1_11 hB_11
      go_wp2_with fail
      obtain ⟨w13, hw_13⟩ : ∃ w13, (w12.alloc (Obj.cells #[Value.int IntKind.i64 0, Value.int IntKind.i64 0] 25)) = w13 := ⟨_, rfl⟩
      rw [hw_13]
      have hl_13 : Later w12 w13 := by rw [← hw_13]; exact (Kin.Below.allocC (Below.refl _ _) (Nat.le_refl _))
      have l0_13 : w13.cell? ⟨w12.heap.size, 0, none⟩ = some (.int .i64 0) := by rw [← hw_13]; simp [go_sem]
      have l1_13 : w13.cell? ⟨w12.heap.size, 1, none⟩ = some (.int .i64 0) := by rw [← hw_13]; simp [go_sem]
      have hy_13 : w12.heap.size + 1 = w13.heap.size := by rw [← hw_13]; simp
      clear hw_13
      have a0_13 := Later.cell hl_13 a0_12
      have a1_13 := Later.cell hl_13 a1_12
      have b0_13 := Later.cell hl_13 b0_12
      have b1_13 := Later.cell hl_13 b1_12
      have c0_13 := Later.cell hl_13 c0_12
      have c1_13 := Later.cell hl_13 c1_12
      have r0_13 := Later.cell hl_13 r0_12
      have r1_13 := Later.cell hl_13 r1_12
      clear lt0_12
      clear lt1_12
      clear lt2_12
      clear lt3_12
      have lt0_13 : w.heap.size < w13.heap.size := lt_of_cell a0_13
      have lt1_13 : w.heap.size + 1 < w13.heap.size := lt_of_cell b0_13
      have lt2_13 : w.heap.size + 1 + 1 < w13.heap.size := lt_of_cell c0_13
      have lt3_13 : w6.heap.size < w13.heap.size := lt_of_cell r0_13
      have hB_13 := Later.below hl_13 hB_12 (by omega)
      have hz_13 := Later.size hl_13
      clear hl_13 a0_12 a1_12 b0_12 b1_12 c0_12 c1_12 r0_12 r1_12 hB_12
      refine (all_zero _ 2 2 _ (by omega) (fun i hi => by match i, hi with | 0, _ => assumption | 1, _ => assumption)).mono ?_
      rintro e w' ⟨rfl, rfl⟩
      clear l0_13
      clear l1_13
      first
        | (have HPQ : P = -1 ∧ Q = -1 := ⟨hp, hq⟩
           rcases HF.out HPQ.1 HPQ.2 with hd | ⟨rfl, rfl⟩ | ⟨rfl, hu⟩
           · have hd1 : ¬ v = D := by omega
             have hd2 : ¬ D = v := by omega
             go_wp2
             all_goals (go_ret; exact ⟨rfl, hB_13⟩)
           · go_wp2
             all_goals (go_ret; exact ⟨rfl, hB_13⟩)
           · have hd1 : ¬ u = N := by omega
             by_cases hu0 : u < -u <;> by_cases hN0 : N < -N
             all_goals
               go_wp2
               all_goals (go_ret; refine ⟨?_, hB_13⟩; first | rfl | (refine ret_val ?_; show Value.bool _ = _; congr 1; simp; omega)))
        | (go_wp2
           all_goals (go_ret; exact ⟨rfl, hB_13⟩))
theorem ratioSimplest_any (n d m k u v : Int) (w : World) :
    Calls Try.prog 5 #[.agg #[.int .i64 n, .int .i64 d], .agg #[.int .i64 m, .int .i64 k], .agg #[.int .i64 u, .int .i64 v]] w fun e w' => e = .returned (.bool true) ∧ Below w.heap.size w w' := by
  cases hb : (okB n d && okB m k)
  · exact simplest_b n d m k u v w hb
  · cases hc : okB u v
    · exact simplest_c n d m k u v w hb hc
    · by_cases hl : n * k < m * d
      · exact simplest_ok n d m k u v w hb hc hl
      · exact simplest_l n d m k u v w hb hc hl
end R12
end Go.Proofs
