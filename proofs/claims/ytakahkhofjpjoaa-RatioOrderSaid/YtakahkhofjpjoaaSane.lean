/- sane walked: the chapter's examples hold. -/
import Derived.Test.YtakahkhofjpjoaaRTi
import Derived.Test.YtakahkhofjpjoaaRBt
import Derived.BigGuardPart
namespace Go.Proofs
open Go.RowKit Go.Shelf Go.Kin
namespace R12
theorem v1 : mkN 6 (-4) = -3 ∧ mkD 6 (-4) = 2 ∧ mkE 6 (-4) = 0 := by decide +kernel
theorem v2 : mkN 2147483648 2 = 1073741824 ∧ mkD 2147483648 2 = 1 ∧ mkE 2147483648 2 = 0 := by decide +kernel
theorem v3 : mkN 1 0 = 0 ∧ mkD 1 0 = 0 ∧ mkE 1 0 = 120 := by decide +kernel
theorem v4 : mkN 1 1073741825 = 0 ∧ mkD 1 1073741825 = 0 ∧ mkE 1 1073741825 = 2 := by decide +kernel
theorem v5 : resN (okB 1 2 && okB 1 3) (1 * 3 + 1 * 2) (2 * 3) = 5 ∧ resD (okB 1 2 && okB 1 3) (1 * 3 + 1 * 2) (2 * 3) = 6 ∧ resE (okB 1 2 && okB 1 3) (1 * 3 + 1 * 2) (2 * 3) = 0 := by decide +kernel
theorem v6 : tmLo 7 2 3 = 10 ∧ tmHi 7 2 3 = 11 ∧ tmE 7 2 3 = 0 := by decide +kernel
theorem v7 : btN 1 3 1 2 = 2 ∧ btD 1 3 1 2 = 5 ∧ btE 1 3 1 2 = 0 := by decide +kernel
theorem v8 : btN (-1) 2 1 3 = 0 ∧ btD (-1) 2 1 3 = 1 ∧ btE (-1) 2 1 3 = 0 := by decide +kernel
theorem v9 : btN 2 1 5 1 = 3 ∧ btD 2 1 5 1 = 1 ∧ btE 2 1 5 1 = 0 := by decide +kernel
theorem v10 : chkE 0 0 = 120 ∧ chkE 2 4 = 120 ∧ chkE 1 2 = 0 := by decide +kernel
set_option maxRecDepth 100000 in
set_option maxHeartbeats 4000000 in
theorem sane_any (w : World) : Calls Try.prog 10 #[] w fun e w' => e = .returned (.bool true) ∧ Below w.heap.size w w' := by
  have hB_0 := Below.refl w.heap.size w
  go_enter Try.func10, Try.ntmps10
  go_wp2_with fail
  refine (make_any (6) (-4) _ (by omega) (by omega) (by omega) (by omega)).mono ?_
  rintro e w1 ⟨rfl, hl_1⟩
  rw [v1.1, v1.2.1, v1.2.2]
  have hB_1 := Later.below hl_1 hB_0 (by omega)
  have hz_1 := Later.size hl_1
  clear hl_1  hB_0
  go_wp2_with fail
  obtain ⟨w2, hw_2⟩ : ∃ w2, (w1.alloc (Obj.cells #[Value.int IntKind.i64 (-3), Value.int IntKind.i64 2] 23)) = w2 := ⟨_, rfl⟩
  rw [hw_2]
  have hl_2 : Later w1 w2 := by rw [← hw_2]; exact (Kin.Below.allocC (Below.refl _ _) (Nat.le_refl _))
  have a0_2 : w2.cell? ⟨w1.heap.size, 0, none⟩ = some (.int .i64 (-3)) := by rw [← hw_2]; simp [go_sem]
  have a1_2 : w2.cell? ⟨w1.heap.size, 1, none⟩ = some (.int .i64 2) := by rw [← hw_2]; simp [go_sem]
  have hy_2 : w1.heap.size + 1 = w2.heap.size := by rw [← hw_2]; simp
  clear hw_2
  have hB_2 := Later.below hl_2 hB_1 (by omega)
  have hz_2 := Later.size hl_2
  clear hl_2  hB_1
  go_wp2_with fail
  refine (make_any (2147483648) (2) _ (by omega) (by omega) (by omega) (by omega)).mono ?_
  rintro e w3 ⟨rfl, hl_3⟩
  rw [v2.1, v2.2.1, v2.2.2]
  have a0_3 := Later.cell hl_3 a0_2
  have a1_3 := Later.cell hl_3 a1_2
  have lt0_3 : w1.heap.size < w3.heap.size := lt_of_cell a0_3
  have hB_3 := Later.below hl_3 hB_2 (by omega)
  have hz_3 := Later.size hl_3
  clear hl_3 a0_2 a1_2 hB_2
  go_wp2_with fail
  obtain ⟨w4, hw_4⟩ : ∃ w4, (w3.alloc (Obj.cells #[Value.int IntKind.i64 1073741824, Value.int IntKind.i64 1] 23)) = w4 := ⟨_, rfl⟩
  rw [hw_4]
  have hl_4 : Later w3 w4 := by rw [← hw_4]; exact (Kin.Below.allocC (Below.refl _ _) (Nat.le_refl _))
  have b0_4 : w4.cell? ⟨w3.heap.size, 0, none⟩ = some (.int .i64 1073741824) := by rw [← hw_4]; simp [go_sem]
  have b1_4 : w4.cell? ⟨w3.heap.size, 1, none⟩ = some (.int .i64 1) := by rw [← hw_4]; simp [go_sem]
  have hy_4 : w3.heap.size + 1 = w4.heap.size := by rw [← hw_4]; simp
  clear hw_4
  have a0_4 := Later.cell hl_4 a0_3
  have a1_4 := Later.cell hl_4 a1_3
  clear lt0_3
  have lt0_4 : w1.heap.size < w4.heap.size := lt_of_cell a0_4
  have hB_4 := Later.below hl_4 hB_3 (by omega)
  have hz_4 := Later.size hl_4
  clear hl_4 a0_3 a1_3 hB_3
  go_wp2_with fail
  refine (make_any (1) (0) _ (by omega) (by omega) (by omega) (by omega)).mono ?_
  rintro e w5 ⟨rfl, hl_5⟩
  rw [v3.1, v3.2.1, v3.2.2]
  have a0_5 := Later.cell hl_5 a0_4
  have a1_5 := Later.cell hl_5 a1_4
  have b0_5 := Later.cell hl_5 b0_4
  have b1_5 := Later.cell hl_5 b1_4
  clear lt0_4
  have lt0_5 : w1.heap.size < w5.heap.size := lt_of_cell a0_5
  have lt1_5 : w3.heap.size < w5.heap.size := lt_of_cell b0_5
  have hB_5 := Later.below hl_5 hB_4 (by omega)
  have hz_5 := Later.size hl_5
  clear hl_5 a0_4 a1_4 b0_4 b1_4 hB_4
  go_wp2_with fail
  obtain ⟨w6, hw_6⟩ : ∃ w6, (w5.alloc (Obj.cells #[Value.int IntKind.i64 0, Value.int IntKind.i64 0] 23)) = w6 := ⟨_, rfl⟩
  rw [hw_6]
  have hl_6 : Later w5 w6 := by rw [← hw_6]; exact (Kin.Below.allocC (Below.refl _ _) (Nat.le_refl _))
  have z0_6 : w6.cell? ⟨w5.heap.size, 0, none⟩ = some (.int .i64 0) := by rw [← hw_6]; simp [go_sem]
  have z1_6 : w6.cell? ⟨w5.heap.size, 1, none⟩ = some (.int .i64 0) := by rw [← hw_6]; simp [go_sem]
  have hy_6 : w5.heap.size + 1 = w6.heap.size := by rw [← hw_6]; simp
  clear hw_6
  have a0_6 := Later.cell hl_6 a0_5
  have a1_6 := Later.cell hl_6 a1_5
  have b0_6 := Later.cell hl_6 b0_5
  have b1_6 := Later.cell hl_6 b1_5
  clear lt0_5
  clear lt1_5
  have lt0_6 : w1.heap.size < w6.heap.size := lt_of_cell a0_6
  have lt1_6 : w3.heap.size < w6.heap.size := lt_of_cell b0_6
  have hB_6 := Later.below hl_6 hB_5 (by omega)
  have hz_6 := Later.size hl_6
  clear hl_6 a0_5 a1_5 b0_5 b1_5 hB_5
  go_wp2_with fail
  refine (make_any (1) (1073741825) _ (by omega) (by omega) (by omega) (by omega)).mono ?_
  rintro e w7 ⟨rfl, hl_7⟩
  rw [v4.1, v4.2.1, v4.2.2]
  have a0_7 := Later.cell hl_7 a0_6
  have a1_7 := Later.cell hl_7 a1_6
  have b0_7 := Later.cell hl_7 b0_6
  have b1_7 := Later.cell hl_7 b1_6
  have z0_7 := Later.cell hl_7 z0_6
  have z1_7 := Later.cell hl_7 z1_6
  clear lt0_6
  clear lt1_6
  have lt0_7 : w1.heap.size < w7.heap.size := lt_of_cell a0_7
  have lt1_7 : w3.heap.size < w7.heap.size := lt_of_cell b0_7
  have lt2_7 : w5.heap.size < w7.heap.size := lt_of_cell z0_7
  have hB_7 := Later.below hl_7 hB_6 (by omega)
  have hz_7 := Later.size hl_7
  clear hl_7 a0_6 a1_6 b0_6 b1_6 z0_6 z1_6 hB_6
  go_wp2_with fail
  obtain ⟨w8, hw_8⟩ : ∃ w8, (w7.alloc (Obj.cells #[Value.int IntKind.i64 0, Value.int IntKind.i64 0] 23)) = w8 := ⟨_, rfl⟩
  rw [hw_8]
  have hl_8 : Later w7 w8 := by rw [← hw_8]; exact (Kin.Below.allocC (Below.refl _ _) (Nat.le_refl _))
  have z0_8 : w8.cell? ⟨w7.heap.size, 0, none⟩ = some (.int .i64 0) := by rw [← hw_8]; simp [go_sem]
  have z1_8 : w8.cell? ⟨w7.heap.size, 1, none⟩ = some (.int .i64 0) := by rw [← hw_8]; simp [go_sem]
  have hy_8 : w7.heap.size + 1 = w8.heap.size := by rw [← hw_8]; simp
  clear hw_8
  have a0_8 := Later.cell hl_8 a0_7
  have a1_8 := Later.cell hl_8 a1_7
  have b0_8 := Later.cell hl_8 b0_7
  have b1_8 := Later.cell hl_8 b1_7
  have z0_8 := Later.cell hl_8 z0_7
  have z1_8 := Later.cell hl_8 z1_7
  clear lt0_7
  clear lt1_7
  clear lt2_7
  have lt0_8 : w1.heap.size < w8.heap.size := lt_of_cell a0_8
  have lt1_8 : w3.heap.size < w8.heap.size := lt_of_cell b0_8
  have lt2_8 : w5.heap.size < w8.heap.size := lt_of_cell z0_8
  have hB_8 := Later.below hl_8 hB_7 (by omega)
  have hz_8 := Later.size hl_8
  clear hl_8 a0_7 a1_7 b0_7 b1_7 z0_7 z1_7 hB_7
  clear z0_8
  clear z1_8
  obtain ⟨w9, hw_9⟩ : ∃ w9, ((w8.alloc (Obj.cells #[Value.int IntKind.i64 1, Value.int IntKind.i64 2] 23)).alloc (Obj.cells #[Value.int IntKind.i64 1, Value.int IntKind.i64 3] 23)) = w9 := ⟨_, rfl⟩
  rw [hw_9]
  have hl_9 : Later w8 w9 := by rw [← hw_9]; exact (Kin.Below.allocC (Kin.Below.allocC (Below.refl _ _) (Nat.le_refl _)) (by simp))
  have h0_9 : w9.cell? ⟨w8.heap.size, 0, none⟩ = some (.int .i64 1) := by rw [← hw_9]; simp [go_sem]
  have h1_9 : w9.cell? ⟨w8.heap.size, 1, none⟩ = some (.int .i64 2) := by rw [← hw_9]; simp [go_sem]
  have t0_9 : w9.cell? ⟨w8.heap.size + 1, 0, none⟩ = some (.int .i64 1) := by rw [← hw_9]; simp [go_sem]
  have t1_9 : w9.cell? ⟨w8.heap.size + 1, 1, none⟩ = some (.int .i64 3) := by rw [← hw_9]; simp [go_sem]
  have hy_9 : w8.heap.size + 2 = w9.heap.size := by rw [← hw_9]; simp
  clear hw_9
  have a0_9 := Later.cell hl_9 a0_8
  have a1_9 := Later.cell hl_9 a1_8
  have b0_9 := Later.cell hl_9 b0_8
  have b1_9 := Later.cell hl_9 b1_8
  clear lt0_8
  clear lt1_8
  clear lt2_8
  have lt0_9 : w1.heap.size < w9.heap.size := lt_of_cell a0_9
  have lt1_9 : w3.heap.size < w9.heap.size := lt_of_cell b0_9
  have hB_9 := Later.below hl_9 hB_8 (by omega)
  have hz_9 := Later.size hl_9
  clear hl_9 a0_8 a1_8 b0_8 b1_8 hB_8
  refine (op_Add 1 2 1 3 _ (by unfold I64; omega) (by unfold I64; omega) (by unfold I64; omega) (by unfold I64; omega)).mono ?_
  rintro e w10 ⟨rfl, hl_10⟩
  rw [v5.1, v5.2.1, v5.2.2]
  have a0_10 := Later.cell hl_10 a0_9
  have a1_10 := Later.cell hl_10 a1_9
  have b0_10 := Later.cell hl_10 b0_9
  have b1_10 := Later.cell hl_10 b1_9
  have h0_10 := Later.cell hl_10 h0_9
  have h1_10 := Later.cell hl_10 h1_9
  have t0_10 := Later.cell hl_10 t0_9
  have t1_10 := Later.cell hl_10 t1_9
  clear lt0_9
  clear lt1_9
  have lt0_10 : w1.heap.size < w10.heap.size := lt_of_cell a0_10
  have lt1_10 : w3.heap.size < w10.heap.size := lt_of_cell b0_10
  have lt2_10 : w8.heap.size < w10.heap.size := lt_of_cell h0_10
  have lt3_10 : w8.heap.size + 1 < w10.heap.size := lt_of_cell t0_10
  have hB_10 := Later.below hl_10 hB_9 (by omega)
  have hz_10 := Later.size hl_10
  clear hl_10 a0_9 a1_9 b0_9 b1_9 h0_9 h1_9 t0_9 t1_9 hB_9
  go_wp2_with fail
  obtain ⟨w11, hw_11⟩ : ∃ w11, (w10.alloc (Obj.cells #[Value.int IntKind.i64 5, Value.int IntKind.i64 6] 23)) = w11 := ⟨_, rfl⟩
  rw [hw_11]
  have hl_11 : Later w10 w11 := by rw [← hw_11]; exact (Kin.Below.allocC (Below.refl _ _) (Nat.le_refl _))
  have s0_11 : w11.cell? ⟨w10.heap.size, 0, none⟩ = some (.int .i64 5) := by rw [← hw_11]; simp [go_sem]
  have s1_11 : w11.cell? ⟨w10.heap.size, 1, none⟩ = some (.int .i64 6) := by rw [← hw_11]; simp [go_sem]
  have hy_11 : w10.heap.size + 1 = w11.heap.size := by rw [← hw_11]; simp
  clear hw_11
  have a0_11 := Later.cell hl_11 a0_10
  have a1_11 := Later.cell hl_11 a1_10
  have b0_11 := Later.cell hl_11 b0_10
  have b1_11 := Later.cell hl_11 b1_10
  have h0_11 := Later.cell hl_11 h0_10
  have h1_11 := Later.cell hl_11 h1_10
  have t0_11 := Later.cell hl_11 t0_10
  have t1_11 := Later.cell hl_11 t1_10
  clear lt0_10
  clear lt1_10
  clear lt2_10
  clear lt3_10
  have lt0_11 : w1.heap.size < w11.heap.size := lt_of_cell a0_11
  have lt1_11 : w3.heap.size < w11.heap.size := lt_of_cell b0_11
  have lt2_11 : w8.heap.size < w11.heap.size := lt_of_cell h0_11
  have lt3_11 : w8.heap.size + 1 < w11.heap.size := lt_of_cell t0_11
  have hB_11 := Later.below hl_11 hB_10 (by omega)
  have hz_11 := Later.size hl_11
  clear hl_11 a0_10 a1_10 b0_10 b1_10 h0_10 h1_10 t0_10 t1_10 hB_10
  refine (times_any 7 2 3 _ (by unfold I64; omega) (by unfold I64; omega) (by unfold I64; omega)).mono ?_
  rintro e w12 ⟨rfl, hl_12⟩
  rw [v6.1, v6.2.1, v6.2.2]
  have a0_12 := Later.cell hl_12 a0_11
  have a1_12 := Later.cell hl_12 a1_11
  have b0_12 := Later.cell hl_12 b0_11
  have b1_12 := Later.cell hl_12 b1_11
  have h0_12 := Later.cell hl_12 h0_11
  have h1_12 := Later.cell hl_12 h1_11
  have t0_12 := Later.cell hl_12 t0_11
  have t1_12 := Later.cell hl_12 t1_11
  have s0_12 := Later.cell hl_12 s0_11
  have s1_12 := Later.cell hl_12 s1_11
  clear lt0_11
  clear lt1_11
  clear lt2_11
  clear lt3_11
  have lt0_12 : w1.heap.size < w12.heap.size := lt_of_cell a0_12
  have lt1_12 : w3.heap.size < w12.heap.size := lt_of_cell b0_12
  have lt2_12 : w8.heap.size < w12.heap.size := lt_of_cell h0_12
  have lt3_12 : w8.heap.size + 1 < w12.heap.size := lt_of_cell t0_12
  have lt4_12 : w10.heap.size < w12.heap.size := lt_of_cell s0_12
  have hB_12 := Later.below hl_12 hB_11 (by omega)
  have hz_12 := Later.size hl_12
  clear hl_12 a0_11 a1_11 b0_11 b1_11 h0_11 h1_11 t0_11 t1_11 s0_11 s1_11 hB_11
  go_wp2_with fail
  refine (between_any 1 3 1 2 _ (by unfold I64; omega) (by unfold I64; omega) (by unfold I64; omega) (by unfold I64; omega)).mono ?_
  rintro e w13 ⟨rfl, hl_13⟩
  rw [v7.1, v7.2.1, v7.2.2]
  have a0_13 := Later.cell hl_13 a0_12
  have a1_13 := Later.cell hl_13 a1_12
  have b0_13 := Later.cell hl_13 b0_12
  have b1_13 := Later.cell hl_13 b1_12
  have h0_13 := Later.cell hl_13 h0_12
  have h1_13 := Later.cell hl_13 h1_12
  have t0_13 := Later.cell hl_13 t0_12
  have t1_13 := Later.cell hl_13 t1_12
  have s0_13 := Later.cell hl_13 s0_12
  have s1_13 := Later.cell hl_13 s1_12
  clear lt0_12
  clear lt1_12
  clear lt2_12
  clear lt3_12
  clear lt4_12
  have lt0_13 : w1.heap.size < w13.heap.size := lt_of_cell a0_13
  have lt1_13 : w3.heap.size < w13.heap.size := lt_of_cell b0_13
  have lt2_13 : w8.heap.size < w13.heap.size := lt_of_cell h0_13
  have lt3_13 : w8.heap.size + 1 < w13.heap.size := lt_of_cell t0_13
  have lt4_13 : w10.heap.size < w13.heap.size := lt_of_cell s0_13
  have hB_13 := Later.below hl_13 hB_12 (by omega)
  have hz_13 := Later.size hl_13
  clear hl_13 a0_12 a1_12 b0_12 b1_12 h0_12 h1_12 t0_12 t1_12 s0_12 s1_12 hB_12
  go_wp2_with fail
  obtain ⟨w14, hw_14⟩ : ∃ w14, (w13.alloc (Obj.cells #[Value.int IntKind.i64 2, Value.int IntKind.i64 5] 23)) = w14 := ⟨_, rfl⟩
  rw [hw_14]
  have hl_14 : Later w13 w14 := by rw [← hw_14]; exact (Kin.Below.allocC (Below.refl _ _) (Nat.le_refl _))
  have p0_14 : w14.cell? ⟨w13.heap.size, 0, none⟩ = some (.int .i64 2) := by rw [← hw_14]; simp [go_sem]
  have p1_14 : w14.cell? ⟨w13.heap.size, 1, none⟩ = some (.int .i64 5) := by rw [← hw_14]; simp [go_sem]
  have hy_14 : w13.heap.size + 1 = w14.heap.size := by rw [← hw_14]; simp
  clear hw_14
  have a0_14 := Later.cell hl_14 a0_13
  have a1_14 := Later.cell hl_14 a1_13
  have b0_14 := Later.cell hl_14 b0_13
  have b1_14 := Later.cell hl_14 b1_13
  have h0_14 := Later.cell hl_14 h0_13
  have h1_14 := Later.cell hl_14 h1_13
  have t0_14 := Later.cell hl_14 t0_13
  have t1_14 := Later.cell hl_14 t1_13
  have s0_14 := Later.cell hl_14 s0_13
  have s1_14 := Later.cell hl_14 s1_13
  clear lt0_13
  clear lt1_13
  clear lt2_13
  clear lt3_13
  clear lt4_13
  have lt0_14 : w1.heap.size < w14.heap.size := lt_of_cell a0_14
  have lt1_14 : w3.heap.size < w14.heap.size := lt_of_cell b0_14
  have lt2_14 : w8.heap.size < w14.heap.size := lt_of_cell h0_14
  have lt3_14 : w8.heap.size + 1 < w14.heap.size := lt_of_cell t0_14
  have lt4_14 : w10.heap.size < w14.heap.size := lt_of_cell s0_14
  have hB_14 := Later.below hl_14 hB_13 (by omega)
  have hz_14 := Later.size hl_14
  clear hl_14 a0_13 a1_13 b0_13 b1_13 h0_13 h1_13 t0_13 t1_13 s0_13 s1_13 hB_13
  refine (between_any (-1) 2 1 3 _ (by unfold I64; omega) (by unfold I64; omega) (by unfold I64; omega) (by unfold I64; omega)).mono ?_
  rintro e w15 ⟨rfl, hl_15⟩
  rw [v8.1, v8.2.1, v8.2.2]
  have a0_15 := Later.cell hl_15 a0_14
  have a1_15 := Later.cell hl_15 a1_14
  have b0_15 := Later.cell hl_15 b0_14
  have b1_15 := Later.cell hl_15 b1_14
  have h0_15 := Later.cell hl_15 h0_14
  have h1_15 := Later.cell hl_15 h1_14
  have t0_15 := Later.cell hl_15 t0_14
  have t1_15 := Later.cell hl_15 t1_14
  have s0_15 := Later.cell hl_15 s0_14
  have s1_15 := Later.cell hl_15 s1_14
  have p0_15 := Later.cell hl_15 p0_14
  have p1_15 := Later.cell hl_15 p1_14
  clear lt0_14
  clear lt1_14
  clear lt2_14
  clear lt3_14
  clear lt4_14
  have lt0_15 : w1.heap.size < w15.heap.size := lt_of_cell a0_15
  have lt1_15 : w3.heap.size < w15.heap.size := lt_of_cell b0_15
  have lt2_15 : w8.heap.size < w15.heap.size := lt_of_cell h0_15
  have lt3_15 : w8.heap.size + 1 < w15.heap.size := lt_of_cell t0_15
  have lt4_15 : w10.heap.size < w15.heap.size := lt_of_cell s0_15
  have lt5_15 : w13.heap.size < w15.heap.size := lt_of_cell p0_15
  have hB_15 := Later.below hl_15 hB_14 (by omega)
  have hz_15 := Later.size hl_15
  clear hl_15 a0_14 a1_14 b0_14 b1_14 h0_14 h1_14 t0_14 t1_14 s0_14 s1_14 p0_14 p1_14 hB_14
  go_wp2_with fail
  obtain ⟨w16, hw_16⟩ : ∃ w16, (w15.alloc (Obj.cells #[Value.int IntKind.i64 0, Value.int IntKind.i64 1] 23)) = w16 := ⟨_, rfl⟩
  rw [hw_16]
  have hl_16 : Later w15 w16 := by rw [← hw_16]; exact (Kin.Below.allocC (Below.refl _ _) (Nat.le_refl _))
  have q0_16 : w16.cell? ⟨w15.heap.size, 0, none⟩ = some (.int .i64 0) := by rw [← hw_16]; simp [go_sem]
  have q1_16 : w16.cell? ⟨w15.heap.size, 1, none⟩ = some (.int .i64 1) := by rw [← hw_16]; simp [go_sem]
  have hy_16 : w15.heap.size + 1 = w16.heap.size := by rw [← hw_16]; simp
  clear hw_16
  have a0_16 := Later.cell hl_16 a0_15
  have a1_16 := Later.cell hl_16 a1_15
  have b0_16 := Later.cell hl_16 b0_15
  have b1_16 := Later.cell hl_16 b1_15
  have h0_16 := Later.cell hl_16 h0_15
  have h1_16 := Later.cell hl_16 h1_15
  have t0_16 := Later.cell hl_16 t0_15
  have t1_16 := Later.cell hl_16 t1_15
  have s0_16 := Later.cell hl_16 s0_15
  have s1_16 := Later.cell hl_16 s1_15
  have p0_16 := Later.cell hl_16 p0_15
  have p1_16 := Later.cell hl_16 p1_15
  clear lt0_15
  clear lt1_15
  clear lt2_15
  clear lt3_15
  clear lt4_15
  clear lt5_15
  have lt0_16 : w1.heap.size < w16.heap.size := lt_of_cell a0_16
  have lt1_16 : w3.heap.size < w16.heap.size := lt_of_cell b0_16
  have lt2_16 : w8.heap.size < w16.heap.size := lt_of_cell h0_16
  have lt3_16 : w8.heap.size + 1 < w16.heap.size := lt_of_cell t0_16
  have lt4_16 : w10.heap.size < w16.heap.size := lt_of_cell s0_16
  have lt5_16 : w13.heap.size < w16.heap.size := lt_of_cell p0_16
  have hB_16 := Later.below hl_16 hB_15 (by omega)
  have hz_16 := Later.size hl_16
  clear hl_16 a0_15 a1_15 b0_15 b1_15 h0_15 h1_15 t0_15 t1_15 s0_15 s1_15 p0_15 p1_15 hB_15
  refine (between_any 2 1 5 1 _ (by unfold I64; omega) (by unfold I64; omega) (by unfold I64; omega) (by unfold I64; omega)).mono ?_
  rintro e w17 ⟨rfl, hl_17⟩
  rw [v9.1, v9.2.1, v9.2.2]
  have a0_17 := Later.cell hl_17 a0_16
  have a1_17 := Later.cell hl_17 a1_16
  have b0_17 := Later.cell hl_17 b0_16
  have b1_17 := Later.cell hl_17 b1_16
  have h0_17 := Later.cell hl_17 h0_16
  have h1_17 := Later.cell hl_17 h1_16
  have t0_17 := Later.cell hl_17 t0_16
  have t1_17 := Later.cell hl_17 t1_16
  have s0_17 := Later.cell hl_17 s0_16
  have s1_17 := Later.cell hl_17 s1_16
  have p0_17 := Later.cell hl_17 p0_16
  have p1_17 := Later.cell hl_17 p1_16
  have q0_17 := Later.cell hl_17 q0_16
  have q1_17 := Later.cell hl_17 q1_16
  clear lt0_16
  clear lt1_16
  clear lt2_16
  clear lt3_16
  clear lt4_16
  clear lt5_16
  have lt0_17 : w1.heap.size < w17.heap.size := lt_of_cell a0_17
  have lt1_17 : w3.heap.size < w17.heap.size := lt_of_cell b0_17
  have lt2_17 : w8.heap.size < w17.heap.size := lt_of_cell h0_17
  have lt3_17 : w8.heap.size + 1 < w17.heap.size := lt_of_cell t0_17
  have lt4_17 : w10.heap.size < w17.heap.size := lt_of_cell s0_17
  have lt5_17 : w13.heap.size < w17.heap.size := lt_of_cell p0_17
  have lt6_17 : w15.heap.size < w17.heap.size := lt_of_cell q0_17
  have hB_17 := Later.below hl_17 hB_16 (by omega)
  have hz_17 := Later.size hl_17
  clear hl_17 a0_16 a1_16 b0_16 b1_16 h0_16 h1_16 t0_16 t1_16 s0_16 s1_16 p0_16 p1_16 q0_16 q1_16 hB_16
  go_wp2_with fail
  obtain ⟨w18, hw_18⟩ : ∃ w18, (w17.alloc (Obj.cells #[Value.int IntKind.i64 3, Value.int IntKind.i64 1] 23)) = w18 := ⟨_, rfl⟩
  rw [hw_18]
  have hl_18 : Later w17 w18 := by rw [← hw_18]; exact (Kin.Below.allocC (Below.refl _ _) (Nat.le_refl _))
  have r0_18 : w18.cell? ⟨w17.heap.size, 0, none⟩ = some (.int .i64 3) := by rw [← hw_18]; simp [go_sem]
  have r1_18 : w18.cell? ⟨w17.heap.size, 1, none⟩ = some (.int .i64 1) := by rw [← hw_18]; simp [go_sem]
  have hy_18 : w17.heap.size + 1 = w18.heap.size := by rw [← hw_18]; simp
  clear hw_18
  have a0_18 := Later.cell hl_18 a0_17
  have a1_18 := Later.cell hl_18 a1_17
  have b0_18 := Later.cell hl_18 b0_17
  have b1_18 := Later.cell hl_18 b1_17
  have h0_18 := Later.cell hl_18 h0_17
  have h1_18 := Later.cell hl_18 h1_17
  have t0_18 := Later.cell hl_18 t0_17
  have t1_18 := Later.cell hl_18 t1_17
  have s0_18 := Later.cell hl_18 s0_17
  have s1_18 := Later.cell hl_18 s1_17
  have p0_18 := Later.cell hl_18 p0_17
  have p1_18 := Later.cell hl_18 p1_17
  have q0_18 := Later.cell hl_18 q0_17
  have q1_18 := Later.cell hl_18 q1_17
  clear lt0_17
  clear lt1_17
  clear lt2_17
  clear lt3_17
  clear lt4_17
  clear lt5_17
  clear lt6_17
  have lt0_18 : w1.heap.size < w18.heap.size := lt_of_cell a0_18
  have lt1_18 : w3.heap.size < w18.heap.size := lt_of_cell b0_18
  have lt2_18 : w8.heap.size < w18.heap.size := lt_of_cell h0_18
  have lt3_18 : w8.heap.size + 1 < w18.heap.size := lt_of_cell t0_18
  have lt4_18 : w10.heap.size < w18.heap.size := lt_of_cell s0_18
  have lt5_18 : w13.heap.size < w18.heap.size := lt_of_cell p0_18
  have lt6_18 : w15.heap.size < w18.heap.size := lt_of_cell q0_18
  have hB_18 := Later.below hl_18 hB_17 (by omega)
  have hz_18 := Later.size hl_18
  clear hl_18 a0_17 a1_17 b0_17 b1_17 h0_17 h1_17 t0_17 t1_17 s0_17 s1_17 p0_17 p1_17 q0_17 q1_17 hB_17
  refine (check_any 0 0 _ (by omega) (by omega) (by omega) (by omega)).mono ?_
  rintro e w19 ⟨rfl, hl_19⟩
  rw [v10.1]
  have a0_19 := Later.cell hl_19 a0_18
  have a1_19 := Later.cell hl_19 a1_18
  have b0_19 := Later.cell hl_19 b0_18
  have b1_19 := Later.cell hl_19 b1_18
  have h0_19 := Later.cell hl_19 h0_18
  have h1_19 := Later.cell hl_19 h1_18
  have t0_19 := Later.cell hl_19 t0_18
  have t1_19 := Later.cell hl_19 t1_18
  have s0_19 := Later.cell hl_19 s0_18
  have s1_19 := Later.cell hl_19 s1_18
  have p0_19 := Later.cell hl_19 p0_18
  have p1_19 := Later.cell hl_19 p1_18
  have q0_19 := Later.cell hl_19 q0_18
  have q1_19 := Later.cell hl_19 q1_18
  have r0_19 := Later.cell hl_19 r0_18
  have r1_19 := Later.cell hl_19 r1_18
  clear lt0_18
  clear lt1_18
  clear lt2_18
  clear lt3_18
  clear lt4_18
  clear lt5_18
  clear lt6_18
  have lt0_19 : w1.heap.size < w19.heap.size := lt_of_cell a0_19
  have lt1_19 : w3.heap.size < w19.heap.size := lt_of_cell b0_19
  have lt2_19 : w8.heap.size < w19.heap.size := lt_of_cell h0_19
  have lt3_19 : w8.heap.size + 1 < w19.heap.size := lt_of_cell t0_19
  have lt4_19 : w10.heap.size < w19.heap.size := lt_of_cell s0_19
  have lt5_19 : w13.heap.size < w19.heap.size := lt_of_cell p0_19
  have lt6_19 : w15.heap.size < w19.heap.size := lt_of_cell q0_19
  have lt7_19 : w17.heap.size < w19.heap.size := lt_of_cell r0_19
  have hB_19 := Later.below hl_19 hB_18 (by omega)
  have hz_19 := Later.size hl_19
  clear hl_19 a0_18 a1_18 b0_18 b1_18 h0_18 h1_18 t0_18 t1_18 s0_18 s1_18 p0_18 p1_18 q0_18 q1_18 r0_18 r1_18 hB_18
  go_wp2_with fail
  refine (check_any 2 4 _ (by omega) (by omega) (by omega) (by omega)).mono ?_
  rintro e w20 ⟨rfl, hl_20⟩
  rw [v10.2.1]
  have a0_20 := Later.cell hl_20 a0_19
  have a1_20 := Later.cell hl_20 a1_19
  have b0_20 := Later.cell hl_20 b0_19
  have b1_20 := Later.cell hl_20 b1_19
  have h0_20 := Later.cell hl_20 h0_19
  have h1_20 := Later.cell hl_20 h1_19
  have t0_20 := Later.cell hl_20 t0_19
  have t1_20 := Later.cell hl_20 t1_19
  have s0_20 := Later.cell hl_20 s0_19
  have s1_20 := Later.cell hl_20 s1_19
  have p0_20 := Later.cell hl_20 p0_19
  have p1_20 := Later.cell hl_20 p1_19
  have q0_20 := Later.cell hl_20 q0_19
  have q1_20 := Later.cell hl_20 q1_19
  have r0_20 := Later.cell hl_20 r0_19
  have r1_20 := Later.cell hl_20 r1_19
  clear lt0_19
  clear lt1_19
  clear lt2_19
  clear lt3_19
  clear lt4_19
  clear lt5_19
  clear lt6_19
  clear lt7_19
  have lt0_20 : w1.heap.size < w20.heap.size := lt_of_cell a0_20
  have lt1_20 : w3.heap.size < w20.heap.size := lt_of_cell b0_20
  have lt2_20 : w8.heap.size < w20.heap.size := lt_of_cell h0_20
  have lt3_20 : w8.heap.size + 1 < w20.heap.size := lt_of_cell t0_20
  have lt4_20 : w10.heap.size < w20.heap.size := lt_of_cell s0_20
  have lt5_20 : w13.heap.size < w20.heap.size := lt_of_cell p0_20
  have lt6_20 : w15.heap.size < w20.heap.size := lt_of_cell q0_20
  have lt7_20 : w17.heap.size < w20.heap.size := lt_of_cell r0_20
  have hB_20 := Later.below hl_20 hB_19 (by omega)
  have hz_20 := Later.size hl_20
  clear hl_20 a0_19 a1_19 b0_19 b1_19 h0_19 h1_19 t0_19 t1_19 s0_19 s1_19 p0_19 p1_19 q0_19 q1_19 r0_19 r1_19 hB_19
  go_wp2_with fail
  refine (check_any 1 2 _ (by omega) (by omega) (by omega) (by omega)).mono ?_
  rintro e w21 ⟨rfl, hl_21⟩
  rw [v10.2.2]
  have a0_21 := Later.cell hl_21 a0_20
  have a1_21 := Later.cell hl_21 a1_20
  have b0_21 := Later.cell hl_21 b0_20
  have b1_21 := Later.cell hl_21 b1_20
  have h0_21 := Later.cell hl_21 h0_20
  have h1_21 := Later.cell hl_21 h1_20
  have t0_21 := Later.cell hl_21 t0_20
  have t1_21 := Later.cell hl_21 t1_20
  have s0_21 := Later.cell hl_21 s0_20
  have s1_21 := Later.cell hl_21 s1_20
  have p0_21 := Later.cell hl_21 p0_20
  have p1_21 := Later.cell hl_21 p1_20
  have q0_21 := Later.cell hl_21 q0_20
  have q1_21 := Later.cell hl_21 q1_20
  have r0_21 := Later.cell hl_21 r0_20
  have r1_21 := Later.cell hl_21 r1_20
  clear lt0_20
  clear lt1_20
  clear lt2_20
  clear lt3_20
  clear lt4_20
  clear lt5_20
  clear lt6_20
  clear lt7_20
  have lt0_21 : w1.heap.size < w21.heap.size := lt_of_cell a0_21
  have lt1_21 : w3.heap.size < w21.heap.size := lt_of_cell b0_21
  have lt2_21 : w8.heap.size < w21.heap.size := lt_of_cell h0_21
  have lt3_21 : w8.heap.size + 1 < w21.heap.size := lt_of_cell t0_21
  have lt4_21 : w10.heap.size < w21.heap.size := lt_of_cell s0_21
  have lt5_21 : w13.heap.size < w21.heap.size := lt_of_cell p0_21
  have lt6_21 : w15.heap.size < w21.heap.size := lt_of_cell q0_21
  have lt7_21 : w17.heap.size < w21.heap.size := lt_of_cell r0_21
  have hB_21 := Later.below hl_21 hB_20 (by omega)
  have hz_21 := Later.size hl_21
  clear hl_21 a0_20 a1_20 b0_20 b1_20 h0_20 h1_20 t0_20 t1_20 s0_20 s1_20 p0_20 p1_20 q0_20 q1_20 r0_20 r1_20 hB_20
  go_wp2
  go_ret
  exact ⟨rfl, hB_21⟩
end R12
end Go.Proofs
