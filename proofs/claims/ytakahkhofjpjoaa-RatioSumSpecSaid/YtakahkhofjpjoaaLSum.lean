/- RatioSumSpec walked. -/
import Derived.Test.YtakahkhofjpjoaaSane
import Derived.Test.YtakahkhofjpjoaaGenCell
namespace Go.Proofs
open Go.RowKit Go.Shelf Go.Kin
namespace R12
set_option maxRecDepth 100000 in
set_option maxHeartbeats 4000000 in
theorem ratioSumSpec_any (n d m k : Int) (w : World) (hn : I64 n) (hd : I64 d) (hm : I64 m) (hk : I64 k) :
    Calls Try.prog 8 #[.agg #[.int .i64 n, .int .i64 d], .agg #[.int .i64 m, .int .i64 k]] w fun e w' => e = .returned (.bool true) ∧ Below w.heap.size w w' := by
  have HN := Lib.hid hn; have HD := Lib.hid hd; have HM := Lib.hid hm; have HK := Lib.hid hk
  clear hn hd hm hk
  have hB_0 := Below.refl w.heap.size w
  go_enter Try.func8, Try.ntmps8
  go_wp2_with fail
  obtain ⟨w1, hw_1⟩ : ∃ w1, ((w.alloc (Obj.cells #[Value.int IntKind.i64 n, Value.int IntKind.i64 d] 23)).alloc (Obj.cells #[Value.int IntKind.i64 m, Value.int IntKind.i64 k] 23)) = w1 := ⟨_, rfl⟩
  rw [hw_1]
  have hl_1 : Later w w1 := by rw [← hw_1]; exact (Kin.Below.allocC (Kin.Below.allocC (Below.refl _ _) (Nat.le_refl _)) (by simp))
  have a0_1 : w1.cell? ⟨w.heap.size, 0, none⟩ = some (.int .i64 n) := by rw [← hw_1]; simp [go_sem]
  have a1_1 : w1.cell? ⟨w.heap.size, 1, none⟩ = some (.int .i64 d) := by rw [← hw_1]; simp [go_sem]
  have b0_1 : w1.cell? ⟨w.heap.size + 1, 0, none⟩ = some (.int .i64 m) := by rw [← hw_1]; simp [go_sem]
  have b1_1 : w1.cell? ⟨w.heap.size + 1, 1, none⟩ = some (.int .i64 k) := by rw [← hw_1]; simp [go_sem]
  have hy_1 : w.heap.size + 2 = w1.heap.size := by rw [← hw_1]; simp
  clear hw_1
  have hB_1 := Later.below hl_1 hB_0 (by omega)
  have hz_1 := Later.size hl_1
  clear hl_1  hB_0
  refine (sane_any _).mono ?_
  rintro e w2 ⟨rfl, hl_2⟩
  have a0_2 := Later.cell hl_2 a0_1
  have a1_2 := Later.cell hl_2 a1_1
  have b0_2 := Later.cell hl_2 b0_1
  have b1_2 := Later.cell hl_2 b1_1
  have lt0_2 : w.heap.size < w2.heap.size := lt_of_cell a0_2
  have lt1_2 : w.heap.size + 1 < w2.heap.size := lt_of_cell b0_2
  have hB_2 := Later.below hl_2 hB_1 (by omega)
  have hz_2 := Later.size hl_2
  clear hl_2 a0_1 a1_1 b0_1 b1_1 hB_1
  go_wp2_with fail
  refine (op_Add n d m k _ HN.out HD.out HM.out HK.out).mono ?_
  rintro e w3 ⟨rfl, hl_3⟩
  have a0_3 := Later.cell hl_3 a0_2
  have a1_3 := Later.cell hl_3 a1_2
  have b0_3 := Later.cell hl_3 b0_2
  have b1_3 := Later.cell hl_3 b1_2
  clear lt0_2
  clear lt1_2
  have lt0_3 : w.heap.size < w3.heap.size := lt_of_cell a0_3
  have lt1_3 : w.heap.size + 1 < w3.heap.size := lt_of_cell b0_3
  have hB_3 := Later.below hl_3 hB_2 (by omega)
  have hz_3 := Later.size hl_3
  clear hl_3 a0_2 a1_2 b0_2 b1_2 hB_2
  go_wp2_with fail
  obtain ⟨w4, hw_4⟩ : ∃ w4, (w3.alloc (Obj.cells #[Value.int IntKind.i64 (resN (okB n d && okB m k) (n * k + m * d) (d * k)), Value.int IntKind.i64 (resD (okB n d && okB m k) (n * k + m * d) (d * k))] 23)) = w4 := ⟨_, rfl⟩
  rw [hw_4]
  have hl_4 : Later w3 w4 := by rw [← hw_4]; exact (Kin.Below.allocC (Below.refl _ _) (Nat.le_refl _))
  have s0_4 : w4.cell? ⟨w3.heap.size, 0, none⟩ = some (.int .i64 (resN (okB n d && okB m k) (n * k + m * d) (d * k))) := by rw [← hw_4]; simp [go_sem]
  have zs0_4 : w4.frozen? ⟨w3.heap.size, 0, none⟩ = false := by rw [← hw_4]; simp [go_sem]
  have s1_4 : w4.cell? ⟨w3.heap.size, 1, none⟩ = some (.int .i64 (resD (okB n d && okB m k) (n * k + m * d) (d * k))) := by rw [← hw_4]; simp [go_sem]
  have zs1_4 : w4.frozen? ⟨w3.heap.size, 1, none⟩ = false := by rw [← hw_4]; simp [go_sem]
  have hy_4 : w3.heap.size + 1 = w4.heap.size := by rw [← hw_4]; simp
  clear hw_4
  have a0_4 := Later.cell hl_4 a0_3
  have a1_4 := Later.cell hl_4 a1_3
  have b0_4 := Later.cell hl_4 b0_3
  have b1_4 := Later.cell hl_4 b1_3
  clear lt0_3
  clear lt1_3
  have lt0_4 : w.heap.size < w4.heap.size := lt_of_cell a0_4
  have lt1_4 : w.heap.size + 1 < w4.heap.size := lt_of_cell b0_4
  have hB_4 := Later.below hl_4 hB_3 (by omega)
  have hz_4 := Later.size hl_4
  clear hl_4 a0_3 a1_3 b0_3 b1_3 hB_3
  refine (rop_Add n d m k _).mono ?_
  rintro e w5 ⟨rfl, hl_5⟩
  have a0_5 := Later.cell hl_5 a0_4
  have a1_5 := Later.cell hl_5 a1_4
  have b0_5 := Later.cell hl_5 b0_4
  have b1_5 := Later.cell hl_5 b1_4
  have s0_5 := Later.cell hl_5 s0_4
  have s1_5 := Later.cell hl_5 s1_4
  have zs0_5 := Later.frozen hl_5 (lt_of_cell s0_4) zs0_4
  have zs1_5 := Later.frozen hl_5 (lt_of_cell s1_4) zs1_4
  clear lt0_4
  clear lt1_4
  have lt0_5 : w.heap.size < w5.heap.size := lt_of_cell a0_5
  have lt1_5 : w.heap.size + 1 < w5.heap.size := lt_of_cell b0_5
  have lt2_5 : w3.heap.size < w5.heap.size := lt_of_cell s0_5
  have hB_5 := Later.below hl_5 hB_4 (by omega)
  have hz_5 := Later.size hl_5
  clear hl_5 a0_4 a1_4 b0_4 b1_4 s0_4 s1_4 zs0_4 zs1_4 hB_4
  go_wp2_with fail
  obtain ⟨w6, hw_6⟩ : ∃ w6, (w5.alloc (Obj.cells #[Value.int IntKind.i64 (resN (okB n d && okB m k) (n * k + m * d) (d * k)), Value.int IntKind.i64 (resD (okB n d && okB m k) (n * k + m * d) (d * k))] 23)) = w6 := ⟨_, rfl⟩
  rw [hw_6]
  have hl_6 : Later w5 w6 := by rw [← hw_6]; exact (Kin.Below.allocC (Below.refl _ _) (Nat.le_refl _))
  have t0_6 : w6.cell? ⟨w5.heap.size, 0, none⟩ = some (.int .i64 (resN (okB n d && okB m k) (n * k + m * d) (d * k))) := by rw [← hw_6]; simp [go_sem]
  have zt0_6 : w6.frozen? ⟨w5.heap.size, 0, none⟩ = false := by rw [← hw_6]; simp [go_sem]
  have t1_6 : w6.cell? ⟨w5.heap.size, 1, none⟩ = some (.int .i64 (resD (okB n d && okB m k) (n * k + m * d) (d * k))) := by rw [← hw_6]; simp [go_sem]
  have zt1_6 : w6.frozen? ⟨w5.heap.size, 1, none⟩ = false := by rw [← hw_6]; simp [go_sem]
  have hy_6 : w5.heap.size + 1 = w6.heap.size := by rw [← hw_6]; simp
  clear hw_6
  have a0_6 := Later.cell hl_6 a0_5
  have a1_6 := Later.cell hl_6 a1_5
  have b0_6 := Later.cell hl_6 b0_5
  have b1_6 := Later.cell hl_6 b1_5
  have s0_6 := Later.cell hl_6 s0_5
  have s1_6 := Later.cell hl_6 s1_5
  have zs0_6 := Later.frozen hl_6 (lt_of_cell s0_5) zs0_5
  have zs1_6 := Later.frozen hl_6 (lt_of_cell s1_5) zs1_5
  clear lt0_5
  clear lt1_5
  clear lt2_5
  have lt0_6 : w.heap.size < w6.heap.size := lt_of_cell a0_6
  have lt1_6 : w.heap.size + 1 < w6.heap.size := lt_of_cell b0_6
  have lt2_6 : w3.heap.size < w6.heap.size := lt_of_cell s0_6
  have hB_6 := Later.below hl_6 hB_5 (by omega)
  have hz_6 := Later.size hl_6
  clear hl_6 a0_5 a1_5 b0_5 b1_5 s0_5 s1_5 zs0_5 zs1_5 hB_5
  refine (op_Sub n d m k _ HN.out HD.out HM.out HK.out).mono ?_
  rintro e w7 ⟨rfl, hl_7⟩
  have a0_7 := Later.cell hl_7 a0_6
  have a1_7 := Later.cell hl_7 a1_6
  have b0_7 := Later.cell hl_7 b0_6
  have b1_7 := Later.cell hl_7 b1_6
  have s0_7 := Later.cell hl_7 s0_6
  have s1_7 := Later.cell hl_7 s1_6
  have t0_7 := Later.cell hl_7 t0_6
  have t1_7 := Later.cell hl_7 t1_6
  have zs0_7 := Later.frozen hl_7 (lt_of_cell s0_6) zs0_6
  have zs1_7 := Later.frozen hl_7 (lt_of_cell s1_6) zs1_6
  have zt0_7 := Later.frozen hl_7 (lt_of_cell t0_6) zt0_6
  have zt1_7 := Later.frozen hl_7 (lt_of_cell t1_6) zt1_6
  clear lt0_6
  clear lt1_6
  clear lt2_6
  have lt0_7 : w.heap.size < w7.heap.size := lt_of_cell a0_7
  have lt1_7 : w.heap.size + 1 < w7.heap.size := lt_of_cell b0_7
  have lt2_7 : w3.heap.size < w7.heap.size := lt_of_cell s0_7
  have lt3_7 : w5.heap.size < w7.heap.size := lt_of_cell t0_7
  have hB_7 := Later.below hl_7 hB_6 (by omega)
  have hz_7 := Later.size hl_7
  clear hl_7 a0_6 a1_6 b0_6 b1_6 s0_6 s1_6 t0_6 t1_6 zs0_6 zs1_6 zt0_6 zt1_6 hB_6
  go_wp2_with fail
  obtain ⟨w8, hw_8⟩ : ∃ w8, ((w7.setCell ⟨w3.heap.size, 0, none⟩ (.int .i64 (resN (okB n d && okB m k) (n * k - m * d) (d * k)))).setCell ⟨w3.heap.size, 1, none⟩ (.int .i64 (resD (okB n d && okB m k) (n * k - m * d) (d * k)))) = w8 := ⟨_, rfl⟩
  rw [hw_8]
  have a0_8 := cell_set_other (b' := w3.heap.size) (o' := 1) (u := .int .i64 (resD (okB n d && okB m k) (n * k - m * d) (d * k))) (cell_set_other (b' := w3.heap.size) (o' := 0) (u := .int .i64 (resN (okB n d && okB m k) (n * k - m * d) (d * k))) a0_7 (by omega)) (by omega)
  rw [hw_8] at a0_8
  have a1_8 := cell_set_other (b' := w3.heap.size) (o' := 1) (u := .int .i64 (resD (okB n d && okB m k) (n * k - m * d) (d * k))) (cell_set_other (b' := w3.heap.size) (o' := 0) (u := .int .i64 (resN (okB n d && okB m k) (n * k - m * d) (d * k))) a1_7 (by omega)) (by omega)
  rw [hw_8] at a1_8
  have b0_8 := cell_set_other (b' := w3.heap.size) (o' := 1) (u := .int .i64 (resD (okB n d && okB m k) (n * k - m * d) (d * k))) (cell_set_other (b' := w3.heap.size) (o' := 0) (u := .int .i64 (resN (okB n d && okB m k) (n * k - m * d) (d * k))) b0_7 (by omega)) (by omega)
  rw [hw_8] at b0_8
  have b1_8 := cell_set_other (b' := w3.heap.size) (o' := 1) (u := .int .i64 (resD (okB n d && okB m k) (n * k - m * d) (d * k))) (cell_set_other (b' := w3.heap.size) (o' := 0) (u := .int .i64 (resN (okB n d && okB m k) (n * k - m * d) (d * k))) b1_7 (by omega)) (by omega)
  rw [hw_8] at b1_8
  have s0_8 := cell_set_off (o' := 1) (u := .int .i64 (resD (okB n d && okB m k) (n * k - m * d) (d * k))) (cell_set_same (u := .int .i64 (resN (okB n d && okB m k) (n * k - m * d) (d * k))) s0_7) (by omega)
  rw [hw_8] at s0_8
  have s1_8 := cell_set_same (u := .int .i64 (resD (okB n d && okB m k) (n * k - m * d) (d * k))) (cell_set_off (o' := 0) (u := .int .i64 (resN (okB n d && okB m k) (n * k - m * d) (d * k))) s1_7 (by omega))
  rw [hw_8] at s1_8
  have t0_8 := cell_set_other (b' := w3.heap.size) (o' := 1) (u := .int .i64 (resD (okB n d && okB m k) (n * k - m * d) (d * k))) (cell_set_other (b' := w3.heap.size) (o' := 0) (u := .int .i64 (resN (okB n d && okB m k) (n * k - m * d) (d * k))) t0_7 (by omega)) (by omega)
  rw [hw_8] at t0_8
  have t1_8 := cell_set_other (b' := w3.heap.size) (o' := 1) (u := .int .i64 (resD (okB n d && okB m k) (n * k - m * d) (d * k))) (cell_set_other (b' := w3.heap.size) (o' := 0) (u := .int .i64 (resN (okB n d && okB m k) (n * k - m * d) (d * k))) t1_7 (by omega)) (by omega)
  rw [hw_8] at t1_8
  have zs0_8 := frozen_set (b := w3.heap.size) (o := 1) (u := .int .i64 (resD (okB n d && okB m k) (n * k - m * d) (d * k))) (frozen_set (b := w3.heap.size) (o := 0) (u := .int .i64 (resN (okB n d && okB m k) (n * k - m * d) (d * k))) zs0_7)
  rw [hw_8] at zs0_8
  have zs1_8 := frozen_set (b := w3.heap.size) (o := 1) (u := .int .i64 (resD (okB n d && okB m k) (n * k - m * d) (d * k))) (frozen_set (b := w3.heap.size) (o := 0) (u := .int .i64 (resN (okB n d && okB m k) (n * k - m * d) (d * k))) zs1_7)
  rw [hw_8] at zs1_8
  have zt0_8 := frozen_set (b := w3.heap.size) (o := 1) (u := .int .i64 (resD (okB n d && okB m k) (n * k - m * d) (d * k))) (frozen_set (b := w3.heap.size) (o := 0) (u := .int .i64 (resN (okB n d && okB m k) (n * k - m * d) (d * k))) zt0_7)
  rw [hw_8] at zt0_8
  have zt1_8 := frozen_set (b := w3.heap.size) (o := 1) (u := .int .i64 (resD (okB n d && okB m k) (n * k - m * d) (d * k))) (frozen_set (b := w3.heap.size) (o := 0) (u := .int .i64 (resN (okB n d && okB m k) (n * k - m * d) (d * k))) zt1_7)
  rw [hw_8] at zt1_8
  have hB_8 := Kin.Below.setC (b := w3.heap.size) (o := 1) (v := .int .i64 (resD (okB n d && okB m k) (n * k - m * d) (d * k))) (Kin.Below.setC (b := w3.heap.size) (o := 0) (v := .int .i64 (resN (okB n d && okB m k) (n * k - m * d) (d * k))) hB_7 (by omega)) (by omega)
  rw [hw_8] at hB_8
  have hz_8 : w8.heap.size = w7.heap.size := by rw [← hw_8]; simp only [size_set]
  rw [← hz_8] at lt0_7 lt1_7 lt2_7 lt3_7
  have hq_8 : w8.heap.size ≤ w7.heap.size ∧ w7.heap.size ≤ w8.heap.size := by omega
  clear hw_8 hz_8 a0_7 a1_7 b0_7 b1_7 s0_7 s1_7 t0_7 t1_7 zs0_7 zs1_7 zt0_7 zt1_7 hB_7
  refine (rop_Sub n d m k _).mono ?_
  rintro e w9 ⟨rfl, hl_9⟩
  have a0_9 := Later.cell hl_9 a0_8
  have a1_9 := Later.cell hl_9 a1_8
  have b0_9 := Later.cell hl_9 b0_8
  have b1_9 := Later.cell hl_9 b1_8
  have s0_9 := Later.cell hl_9 s0_8
  have s1_9 := Later.cell hl_9 s1_8
  have t0_9 := Later.cell hl_9 t0_8
  have t1_9 := Later.cell hl_9 t1_8
  have zs0_9 := Later.frozen hl_9 (lt_of_cell s0_8) zs0_8
  have zs1_9 := Later.frozen hl_9 (lt_of_cell s1_8) zs1_8
  have zt0_9 := Later.frozen hl_9 (lt_of_cell t0_8) zt0_8
  have zt1_9 := Later.frozen hl_9 (lt_of_cell t1_8) zt1_8
  clear lt0_7
  clear lt1_7
  clear lt2_7
  clear lt3_7
  have lt0_9 : w.heap.size < w9.heap.size := lt_of_cell a0_9
  have lt1_9 : w.heap.size + 1 < w9.heap.size := lt_of_cell b0_9
  have lt2_9 : w3.heap.size < w9.heap.size := lt_of_cell s0_9
  have lt3_9 : w5.heap.size < w9.heap.size := lt_of_cell t0_9
  have hB_9 := Later.below hl_9 hB_8 (by omega)
  have hz_9 := Later.size hl_9
  clear hl_9 a0_8 a1_8 b0_8 b1_8 s0_8 s1_8 t0_8 t1_8 zs0_8 zs1_8 zt0_8 zt1_8 hB_8
  go_wp2_with fail
  obtain ⟨w10, hw_10⟩ : ∃ w10, ((w9.setCell ⟨w5.heap.size, 0, none⟩ (.int .i64 (resN (okB n d && okB m k) (n * k - m * d) (d * k)))).setCell ⟨w5.heap.size, 1, none⟩ (.int .i64 (resD (okB n d && okB m k) (n * k - m * d) (d * k)))) = w10 := ⟨_, rfl⟩
  rw [hw_10]
  have a0_10 := cell_set_other (b' := w5.heap.size) (o' := 1) (u := .int .i64 (resD (okB n d && okB m k) (n * k - m * d) (d * k))) (cell_set_other (b' := w5.heap.size) (o' := 0) (u := .int .i64 (resN (okB n d && okB m k) (n * k - m * d) (d * k))) a0_9 (by omega)) (by omega)
  rw [hw_10] at a0_10
  have a1_10 := cell_set_other (b' := w5.heap.size) (o' := 1) (u := .int .i64 (resD (okB n d && okB m k) (n * k - m * d) (d * k))) (cell_set_other (b' := w5.heap.size) (o' := 0) (u := .int .i64 (resN (okB n d && okB m k) (n * k - m * d) (d * k))) a1_9 (by omega)) (by omega)
  rw [hw_10] at a1_10
  have b0_10 := cell_set_other (b' := w5.heap.size) (o' := 1) (u := .int .i64 (resD (okB n d && okB m k) (n * k - m * d) (d * k))) (cell_set_other (b' := w5.heap.size) (o' := 0) (u := .int .i64 (resN (okB n d && okB m k) (n * k - m * d) (d * k))) b0_9 (by omega)) (by omega)
  rw [hw_10] at b0_10
  have b1_10 := cell_set_other (b' := w5.heap.size) (o' := 1) (u := .int .i64 (resD (okB n d && okB m k) (n * k - m * d) (d * k))) (cell_set_other (b' := w5.heap.size) (o' := 0) (u := .int .i64 (resN (okB n d && okB m k) (n * k - m * d) (d * k))) b1_9 (by omega)) (by omega)
  rw [hw_10] at b1_10
  have s0_10 := cell_set_other (b' := w5.heap.size) (o' := 1) (u := .int .i64 (resD (okB n d && okB m k) (n * k - m * d) (d * k))) (cell_set_other (b' := w5.heap.size) (o' := 0) (u := .int .i64 (resN (okB n d && okB m k) (n * k - m * d) (d * k))) s0_9 (by omega)) (by omega)
  rw [hw_10] at s0_10
  have s1_10 := cell_set_other (b' := w5.heap.size) (o' := 1) (u := .int .i64 (resD (okB n d && okB m k) (n * k - m * d) (d * k))) (cell_set_other (b' := w5.heap.size) (o' := 0) (u := .int .i64 (resN (okB n d && okB m k) (n * k - m * d) (d * k))) s1_9 (by omega)) (by omega)
  rw [hw_10] at s1_10
  have t0_10 := cell_set_off (o' := 1) (u := .int .i64 (resD (okB n d && okB m k) (n * k - m * d) (d * k))) (cell_set_same (u := .int .i64 (resN (okB n d && okB m k) (n * k - m * d) (d * k))) t0_9) (by omega)
  rw [hw_10] at t0_10
  have t1_10 := cell_set_same (u := .int .i64 (resD (okB n d && okB m k) (n * k - m * d) (d * k))) (cell_set_off (o' := 0) (u := .int .i64 (resN (okB n d && okB m k) (n * k - m * d) (d * k))) t1_9 (by omega))
  rw [hw_10] at t1_10
  have zs0_10 := frozen_set (b := w5.heap.size) (o := 1) (u := .int .i64 (resD (okB n d && okB m k) (n * k - m * d) (d * k))) (frozen_set (b := w5.heap.size) (o := 0) (u := .int .i64 (resN (okB n d && okB m k) (n * k - m * d) (d * k))) zs0_9)
  rw [hw_10] at zs0_10
  have zs1_10 := frozen_set (b := w5.heap.size) (o := 1) (u := .int .i64 (resD (okB n d && okB m k) (n * k - m * d) (d * k))) (frozen_set (b := w5.heap.size) (o := 0) (u := .int .i64 (resN (okB n d && okB m k) (n * k - m * d) (d * k))) zs1_9)
  rw [hw_10] at zs1_10
  have zt0_10 := frozen_set (b := w5.heap.size) (o := 1) (u := .int .i64 (resD (okB n d && okB m k) (n * k - m * d) (d * k))) (frozen_set (b := w5.heap.size) (o := 0) (u := .int .i64 (resN (okB n d && okB m k) (n * k - m * d) (d * k))) zt0_9)
  rw [hw_10] at zt0_10
  have zt1_10 := frozen_set (b := w5.heap.size) (o := 1) (u := .int .i64 (resD (okB n d && okB m k) (n * k - m * d) (d * k))) (frozen_set (b := w5.heap.size) (o := 0) (u := .int .i64 (resN (okB n d && okB m k) (n * k - m * d) (d * k))) zt1_9)
  rw [hw_10] at zt1_10
  have hB_10 := Kin.Below.setC (b := w5.heap.size) (o := 1) (v := .int .i64 (resD (okB n d && okB m k) (n * k - m * d) (d * k))) (Kin.Below.setC (b := w5.heap.size) (o := 0) (v := .int .i64 (resN (okB n d && okB m k) (n * k - m * d) (d * k))) hB_9 (by omega)) (by omega)
  rw [hw_10] at hB_10
  have hz_10 : w10.heap.size = w9.heap.size := by rw [← hw_10]; simp only [size_set]
  rw [← hz_10] at lt0_9 lt1_9 lt2_9 lt3_9
  have hq_10 : w10.heap.size ≤ w9.heap.size ∧ w9.heap.size ≤ w10.heap.size := by omega
  clear hw_10 hz_10 a0_9 a1_9 b0_9 b1_9 s0_9 s1_9 t0_9 t1_9 zs0_9 zs1_9 zt0_9 zt1_9 hB_9
  refine (op_Mul n d m k _ HN.out HD.out HM.out HK.out).mono ?_
  rintro e w11 ⟨rfl, hl_11⟩
  have a0_11 := Later.cell hl_11 a0_10
  have a1_11 := Later.cell hl_11 a1_10
  have b0_11 := Later.cell hl_11 b0_10
  have b1_11 := Later.cell hl_11 b1_10
  have s0_11 := Later.cell hl_11 s0_10
  have s1_11 := Later.cell hl_11 s1_10
  have t0_11 := Later.cell hl_11 t0_10
  have t1_11 := Later.cell hl_11 t1_10
  have zs0_11 := Later.frozen hl_11 (lt_of_cell s0_10) zs0_10
  have zs1_11 := Later.frozen hl_11 (lt_of_cell s1_10) zs1_10
  have zt0_11 := Later.frozen hl_11 (lt_of_cell t0_10) zt0_10
  have zt1_11 := Later.frozen hl_11 (lt_of_cell t1_10) zt1_10
  clear lt0_9
  clear lt1_9
  clear lt2_9
  clear lt3_9
  have lt0_11 : w.heap.size < w11.heap.size := lt_of_cell a0_11
  have lt1_11 : w.heap.size + 1 < w11.heap.size := lt_of_cell b0_11
  have lt2_11 : w3.heap.size < w11.heap.size := lt_of_cell s0_11
  have lt3_11 : w5.heap.size < w11.heap.size := lt_of_cell t0_11
  have hB_11 := Later.below hl_11 hB_10 (by omega)
  have hz_11 := Later.size hl_11
  clear hl_11 a0_10 a1_10 b0_10 b1_10 s0_10 s1_10 t0_10 t1_10 zs0_10 zs1_10 zt0_10 zt1_10 hB_10
  go_wp2_with fail
  obtain ⟨w12, hw_12⟩ : ∃ w12, ((w11.setCell ⟨w3.heap.size, 0, none⟩ (.int .i64 (resN (okB n d && okB m k) (n * m) (d * k)))).setCell ⟨w3.heap.size, 1, none⟩ (.int .i64 (resD (okB n d && okB m k) (n * m) (d * k)))) = w12 := ⟨_, rfl⟩
  rw [hw_12]
  have a0_12 := cell_set_other (b' := w3.heap.size) (o' := 1) (u := .int .i64 (resD (okB n d && okB m k) (n * m) (d * k))) (cell_set_other (b' := w3.heap.size) (o' := 0) (u := .int .i64 (resN (okB n d && okB m k) (n * m) (d * k))) a0_11 (by omega)) (by omega)
  rw [hw_12] at a0_12
  have a1_12 := cell_set_other (b' := w3.heap.size) (o' := 1) (u := .int .i64 (resD (okB n d && okB m k) (n * m) (d * k))) (cell_set_other (b' := w3.heap.size) (o' := 0) (u := .int .i64 (resN (okB n d && okB m k) (n * m) (d * k))) a1_11 (by omega)) (by omega)
  rw [hw_12] at a1_12
  have b0_12 := cell_set_other (b' := w3.heap.size) (o' := 1) (u := .int .i64 (resD (okB n d && okB m k) (n * m) (d * k))) (cell_set_other (b' := w3.heap.size) (o' := 0) (u := .int .i64 (resN (okB n d && okB m k) (n * m) (d * k))) b0_11 (by omega)) (by omega)
  rw [hw_12] at b0_12
  have b1_12 := cell_set_other (b' := w3.heap.size) (o' := 1) (u := .int .i64 (resD (okB n d && okB m k) (n * m) (d * k))) (cell_set_other (b' := w3.heap.size) (o' := 0) (u := .int .i64 (resN (okB n d && okB m k) (n * m) (d * k))) b1_11 (by omega)) (by omega)
  rw [hw_12] at b1_12
  have s0_12 := cell_set_off (o' := 1) (u := .int .i64 (resD (okB n d && okB m k) (n * m) (d * k))) (cell_set_same (u := .int .i64 (resN (okB n d && okB m k) (n * m) (d * k))) s0_11) (by omega)
  rw [hw_12] at s0_12
  have s1_12 := cell_set_same (u := .int .i64 (resD (okB n d && okB m k) (n * m) (d * k))) (cell_set_off (o' := 0) (u := .int .i64 (resN (okB n d && okB m k) (n * m) (d * k))) s1_11 (by omega))
  rw [hw_12] at s1_12
  have t0_12 := cell_set_other (b' := w3.heap.size) (o' := 1) (u := .int .i64 (resD (okB n d && okB m k) (n * m) (d * k))) (cell_set_other (b' := w3.heap.size) (o' := 0) (u := .int .i64 (resN (okB n d && okB m k) (n * m) (d * k))) t0_11 (by omega)) (by omega)
  rw [hw_12] at t0_12
  have t1_12 := cell_set_other (b' := w3.heap.size) (o' := 1) (u := .int .i64 (resD (okB n d && okB m k) (n * m) (d * k))) (cell_set_other (b' := w3.heap.size) (o' := 0) (u := .int .i64 (resN (okB n d && okB m k) (n * m) (d * k))) t1_11 (by omega)) (by omega)
  rw [hw_12] at t1_12
  have zs0_12 := frozen_set (b := w3.heap.size) (o := 1) (u := .int .i64 (resD (okB n d && okB m k) (n * m) (d * k))) (frozen_set (b := w3.heap.size) (o := 0) (u := .int .i64 (resN (okB n d && okB m k) (n * m) (d * k))) zs0_11)
  rw [hw_12] at zs0_12
  have zs1_12 := frozen_set (b := w3.heap.size) (o := 1) (u := .int .i64 (resD (okB n d && okB m k) (n * m) (d * k))) (frozen_set (b := w3.heap.size) (o := 0) (u := .int .i64 (resN (okB n d && okB m k) (n * m) (d * k))) zs1_11)
  rw [hw_12] at zs1_12
  have zt0_12 := frozen_set (b := w3.heap.size) (o := 1) (u := .int .i64 (resD (okB n d && okB m k) (n * m) (d * k))) (frozen_set (b := w3.heap.size) (o := 0) (u := .int .i64 (resN (okB n d && okB m k) (n * m) (d * k))) zt0_11)
  rw [hw_12] at zt0_12
  have zt1_12 := frozen_set (b := w3.heap.size) (o := 1) (u := .int .i64 (resD (okB n d && okB m k) (n * m) (d * k))) (frozen_set (b := w3.heap.size) (o := 0) (u := .int .i64 (resN (okB n d && okB m k) (n * m) (d * k))) zt1_11)
  rw [hw_12] at zt1_12
  have hB_12 := Kin.Below.setC (b := w3.heap.size) (o := 1) (v := .int .i64 (resD (okB n d && okB m k) (n * m) (d * k))) (Kin.Below.setC (b := w3.heap.size) (o := 0) (v := .int .i64 (resN (okB n d && okB m k) (n * m) (d * k))) hB_11 (by omega)) (by omega)
  rw [hw_12] at hB_12
  have hz_12 : w12.heap.size = w11.heap.size := by rw [← hw_12]; simp only [size_set]
  rw [← hz_12] at lt0_11 lt1_11 lt2_11 lt3_11
  have hq_12 : w12.heap.size ≤ w11.heap.size ∧ w11.heap.size ≤ w12.heap.size := by omega
  clear hw_12 hz_12 a0_11 a1_11 b0_11 b1_11 s0_11 s1_11 t0_11 t1_11 zs0_11 zs1_11 zt0_11 zt1_11 hB_11
  refine (rop_Mul n d m k _).mono ?_
  rintro e w13 ⟨rfl, hl_13⟩
  have a0_13 := Later.cell hl_13 a0_12
  have a1_13 := Later.cell hl_13 a1_12
  have b0_13 := Later.cell hl_13 b0_12
  have b1_13 := Later.cell hl_13 b1_12
  have s0_13 := Later.cell hl_13 s0_12
  have s1_13 := Later.cell hl_13 s1_12
  have t0_13 := Later.cell hl_13 t0_12
  have t1_13 := Later.cell hl_13 t1_12
  have zs0_13 := Later.frozen hl_13 (lt_of_cell s0_12) zs0_12
  have zs1_13 := Later.frozen hl_13 (lt_of_cell s1_12) zs1_12
  have zt0_13 := Later.frozen hl_13 (lt_of_cell t0_12) zt0_12
  have zt1_13 := Later.frozen hl_13 (lt_of_cell t1_12) zt1_12
  clear lt0_11
  clear lt1_11
  clear lt2_11
  clear lt3_11
  have lt0_13 : w.heap.size < w13.heap.size := lt_of_cell a0_13
  have lt1_13 : w.heap.size + 1 < w13.heap.size := lt_of_cell b0_13
  have lt2_13 : w3.heap.size < w13.heap.size := lt_of_cell s0_13
  have lt3_13 : w5.heap.size < w13.heap.size := lt_of_cell t0_13
  have hB_13 := Later.below hl_13 hB_12 (by omega)
  have hz_13 := Later.size hl_13
  clear hl_13 a0_12 a1_12 b0_12 b1_12 s0_12 s1_12 t0_12 t1_12 zs0_12 zs1_12 zt0_12 zt1_12 hB_12
  go_wp2_with fail
  obtain ⟨w14, hw_14⟩ : ∃ w14, ((w13.setCell ⟨w5.heap.size, 0, none⟩ (.int .i64 (resN (okB n d && okB m k) (n * m) (d * k)))).setCell ⟨w5.heap.size, 1, none⟩ (.int .i64 (resD (okB n d && okB m k) (n * m) (d * k)))) = w14 := ⟨_, rfl⟩
  rw [hw_14]
  have a0_14 := cell_set_other (b' := w5.heap.size) (o' := 1) (u := .int .i64 (resD (okB n d && okB m k) (n * m) (d * k))) (cell_set_other (b' := w5.heap.size) (o' := 0) (u := .int .i64 (resN (okB n d && okB m k) (n * m) (d * k))) a0_13 (by omega)) (by omega)
  rw [hw_14] at a0_14
  have a1_14 := cell_set_other (b' := w5.heap.size) (o' := 1) (u := .int .i64 (resD (okB n d && okB m k) (n * m) (d * k))) (cell_set_other (b' := w5.heap.size) (o' := 0) (u := .int .i64 (resN (okB n d && okB m k) (n * m) (d * k))) a1_13 (by omega)) (by omega)
  rw [hw_14] at a1_14
  have b0_14 := cell_set_other (b' := w5.heap.size) (o' := 1) (u := .int .i64 (resD (okB n d && okB m k) (n * m) (d * k))) (cell_set_other (b' := w5.heap.size) (o' := 0) (u := .int .i64 (resN (okB n d && okB m k) (n * m) (d * k))) b0_13 (by omega)) (by omega)
  rw [hw_14] at b0_14
  have b1_14 := cell_set_other (b' := w5.heap.size) (o' := 1) (u := .int .i64 (resD (okB n d && okB m k) (n * m) (d * k))) (cell_set_other (b' := w5.heap.size) (o' := 0) (u := .int .i64 (resN (okB n d && okB m k) (n * m) (d * k))) b1_13 (by omega)) (by omega)
  rw [hw_14] at b1_14
  have s0_14 := cell_set_other (b' := w5.heap.size) (o' := 1) (u := .int .i64 (resD (okB n d && okB m k) (n * m) (d * k))) (cell_set_other (b' := w5.heap.size) (o' := 0) (u := .int .i64 (resN (okB n d && okB m k) (n * m) (d * k))) s0_13 (by omega)) (by omega)
  rw [hw_14] at s0_14
  have s1_14 := cell_set_other (b' := w5.heap.size) (o' := 1) (u := .int .i64 (resD (okB n d && okB m k) (n * m) (d * k))) (cell_set_other (b' := w5.heap.size) (o' := 0) (u := .int .i64 (resN (okB n d && okB m k) (n * m) (d * k))) s1_13 (by omega)) (by omega)
  rw [hw_14] at s1_14
  have t0_14 := cell_set_off (o' := 1) (u := .int .i64 (resD (okB n d && okB m k) (n * m) (d * k))) (cell_set_same (u := .int .i64 (resN (okB n d && okB m k) (n * m) (d * k))) t0_13) (by omega)
  rw [hw_14] at t0_14
  have t1_14 := cell_set_same (u := .int .i64 (resD (okB n d && okB m k) (n * m) (d * k))) (cell_set_off (o' := 0) (u := .int .i64 (resN (okB n d && okB m k) (n * m) (d * k))) t1_13 (by omega))
  rw [hw_14] at t1_14
  have zs0_14 := frozen_set (b := w5.heap.size) (o := 1) (u := .int .i64 (resD (okB n d && okB m k) (n * m) (d * k))) (frozen_set (b := w5.heap.size) (o := 0) (u := .int .i64 (resN (okB n d && okB m k) (n * m) (d * k))) zs0_13)
  rw [hw_14] at zs0_14
  have zs1_14 := frozen_set (b := w5.heap.size) (o := 1) (u := .int .i64 (resD (okB n d && okB m k) (n * m) (d * k))) (frozen_set (b := w5.heap.size) (o := 0) (u := .int .i64 (resN (okB n d && okB m k) (n * m) (d * k))) zs1_13)
  rw [hw_14] at zs1_14
  have zt0_14 := frozen_set (b := w5.heap.size) (o := 1) (u := .int .i64 (resD (okB n d && okB m k) (n * m) (d * k))) (frozen_set (b := w5.heap.size) (o := 0) (u := .int .i64 (resN (okB n d && okB m k) (n * m) (d * k))) zt0_13)
  rw [hw_14] at zt0_14
  have zt1_14 := frozen_set (b := w5.heap.size) (o := 1) (u := .int .i64 (resD (okB n d && okB m k) (n * m) (d * k))) (frozen_set (b := w5.heap.size) (o := 0) (u := .int .i64 (resN (okB n d && okB m k) (n * m) (d * k))) zt1_13)
  rw [hw_14] at zt1_14
  have hB_14 := Kin.Below.setC (b := w5.heap.size) (o := 1) (v := .int .i64 (resD (okB n d && okB m k) (n * m) (d * k))) (Kin.Below.setC (b := w5.heap.size) (o := 0) (v := .int .i64 (resN (okB n d && okB m k) (n * m) (d * k))) hB_13 (by omega)) (by omega)
  rw [hw_14] at hB_14
  have hz_14 : w14.heap.size = w13.heap.size := by rw [← hw_14]; simp only [size_set]
  rw [← hz_14] at lt0_13 lt1_13 lt2_13 lt3_13
  have hq_14 : w14.heap.size ≤ w13.heap.size ∧ w13.heap.size ≤ w14.heap.size := by omega
  clear hw_14 hz_14 a0_13 a1_13 b0_13 b1_13 s0_13 s1_13 t0_13 t1_13 zs0_13 zs1_13 zt0_13 zt1_13 hB_13
  refine (op_Div n d m k _ HN.out HD.out HM.out HK.out).mono ?_
  rintro e w15 ⟨rfl, hl_15⟩
  have a0_15 := Later.cell hl_15 a0_14
  have a1_15 := Later.cell hl_15 a1_14
  have b0_15 := Later.cell hl_15 b0_14
  have b1_15 := Later.cell hl_15 b1_14
  have s0_15 := Later.cell hl_15 s0_14
  have s1_15 := Later.cell hl_15 s1_14
  have t0_15 := Later.cell hl_15 t0_14
  have t1_15 := Later.cell hl_15 t1_14
  have zs0_15 := Later.frozen hl_15 (lt_of_cell s0_14) zs0_14
  have zs1_15 := Later.frozen hl_15 (lt_of_cell s1_14) zs1_14
  have zt0_15 := Later.frozen hl_15 (lt_of_cell t0_14) zt0_14
  have zt1_15 := Later.frozen hl_15 (lt_of_cell t1_14) zt1_14
  clear lt0_13
  clear lt1_13
  clear lt2_13
  clear lt3_13
  have lt0_15 : w.heap.size < w15.heap.size := lt_of_cell a0_15
  have lt1_15 : w.heap.size + 1 < w15.heap.size := lt_of_cell b0_15
  have lt2_15 : w3.heap.size < w15.heap.size := lt_of_cell s0_15
  have lt3_15 : w5.heap.size < w15.heap.size := lt_of_cell t0_15
  have hB_15 := Later.below hl_15 hB_14 (by omega)
  have hz_15 := Later.size hl_15
  clear hl_15 a0_14 a1_14 b0_14 b1_14 s0_14 s1_14 t0_14 t1_14 zs0_14 zs1_14 zt0_14 zt1_14 hB_14
  go_wp2_with fail
  obtain ⟨w16, hw_16⟩ : ∃ w16, ((w15.setCell ⟨w3.heap.size, 0, none⟩ (.int .i64 (resN (okB n d && okB m k) (n * k) (d * m)))).setCell ⟨w3.heap.size, 1, none⟩ (.int .i64 (resD (okB n d && okB m k) (n * k) (d * m)))) = w16 := ⟨_, rfl⟩
  rw [hw_16]
  have a0_16 := cell_set_other (b' := w3.heap.size) (o' := 1) (u := .int .i64 (resD (okB n d && okB m k) (n * k) (d * m))) (cell_set_other (b' := w3.heap.size) (o' := 0) (u := .int .i64 (resN (okB n d && okB m k) (n * k) (d * m))) a0_15 (by omega)) (by omega)
  rw [hw_16] at a0_16
  have a1_16 := cell_set_other (b' := w3.heap.size) (o' := 1) (u := .int .i64 (resD (okB n d && okB m k) (n * k) (d * m))) (cell_set_other (b' := w3.heap.size) (o' := 0) (u := .int .i64 (resN (okB n d && okB m k) (n * k) (d * m))) a1_15 (by omega)) (by omega)
  rw [hw_16] at a1_16
  have b0_16 := cell_set_other (b' := w3.heap.size) (o' := 1) (u := .int .i64 (resD (okB n d && okB m k) (n * k) (d * m))) (cell_set_other (b' := w3.heap.size) (o' := 0) (u := .int .i64 (resN (okB n d && okB m k) (n * k) (d * m))) b0_15 (by omega)) (by omega)
  rw [hw_16] at b0_16
  have b1_16 := cell_set_other (b' := w3.heap.size) (o' := 1) (u := .int .i64 (resD (okB n d && okB m k) (n * k) (d * m))) (cell_set_other (b' := w3.heap.size) (o' := 0) (u := .int .i64 (resN (okB n d && okB m k) (n * k) (d * m))) b1_15 (by omega)) (by omega)
  rw [hw_16] at b1_16
  have s0_16 := cell_set_off (o' := 1) (u := .int .i64 (resD (okB n d && okB m k) (n * k) (d * m))) (cell_set_same (u := .int .i64 (resN (okB n d && okB m k) (n * k) (d * m))) s0_15) (by omega)
  rw [hw_16] at s0_16
  have s1_16 := cell_set_same (u := .int .i64 (resD (okB n d && okB m k) (n * k) (d * m))) (cell_set_off (o' := 0) (u := .int .i64 (resN (okB n d && okB m k) (n * k) (d * m))) s1_15 (by omega))
  rw [hw_16] at s1_16
  have t0_16 := cell_set_other (b' := w3.heap.size) (o' := 1) (u := .int .i64 (resD (okB n d && okB m k) (n * k) (d * m))) (cell_set_other (b' := w3.heap.size) (o' := 0) (u := .int .i64 (resN (okB n d && okB m k) (n * k) (d * m))) t0_15 (by omega)) (by omega)
  rw [hw_16] at t0_16
  have t1_16 := cell_set_other (b' := w3.heap.size) (o' := 1) (u := .int .i64 (resD (okB n d && okB m k) (n * k) (d * m))) (cell_set_other (b' := w3.heap.size) (o' := 0) (u := .int .i64 (resN (okB n d && okB m k) (n * k) (d * m))) t1_15 (by omega)) (by omega)
  rw [hw_16] at t1_16
  have zs0_16 := frozen_set (b := w3.heap.size) (o := 1) (u := .int .i64 (resD (okB n d && okB m k) (n * k) (d * m))) (frozen_set (b := w3.heap.size) (o := 0) (u := .int .i64 (resN (okB n d && okB m k) (n * k) (d * m))) zs0_15)
  rw [hw_16] at zs0_16
  have zs1_16 := frozen_set (b := w3.heap.size) (o := 1) (u := .int .i64 (resD (okB n d && okB m k) (n * k) (d * m))) (frozen_set (b := w3.heap.size) (o := 0) (u := .int .i64 (resN (okB n d && okB m k) (n * k) (d * m))) zs1_15)
  rw [hw_16] at zs1_16
  have zt0_16 := frozen_set (b := w3.heap.size) (o := 1) (u := .int .i64 (resD (okB n d && okB m k) (n * k) (d * m))) (frozen_set (b := w3.heap.size) (o := 0) (u := .int .i64 (resN (okB n d && okB m k) (n * k) (d * m))) zt0_15)
  rw [hw_16] at zt0_16
  have zt1_16 := frozen_set (b := w3.heap.size) (o := 1) (u := .int .i64 (resD (okB n d && okB m k) (n * k) (d * m))) (frozen_set (b := w3.heap.size) (o := 0) (u := .int .i64 (resN (okB n d && okB m k) (n * k) (d * m))) zt1_15)
  rw [hw_16] at zt1_16
  have hB_16 := Kin.Below.setC (b := w3.heap.size) (o := 1) (v := .int .i64 (resD (okB n d && okB m k) (n * k) (d * m))) (Kin.Below.setC (b := w3.heap.size) (o := 0) (v := .int .i64 (resN (okB n d && okB m k) (n * k) (d * m))) hB_15 (by omega)) (by omega)
  rw [hw_16] at hB_16
  have hz_16 : w16.heap.size = w15.heap.size := by rw [← hw_16]; simp only [size_set]
  rw [← hz_16] at lt0_15 lt1_15 lt2_15 lt3_15
  have hq_16 : w16.heap.size ≤ w15.heap.size ∧ w15.heap.size ≤ w16.heap.size := by omega
  clear hw_16 hz_16 a0_15 a1_15 b0_15 b1_15 s0_15 s1_15 t0_15 t1_15 zs0_15 zs1_15 zt0_15 zt1_15 hB_15
  refine (rop_Div n d m k _).mono ?_
  rintro e w17 ⟨rfl, hl_17⟩
  have a0_17 := Later.cell hl_17 a0_16
  have a1_17 := Later.cell hl_17 a1_16
  have b0_17 := Later.cell hl_17 b0_16
  have b1_17 := Later.cell hl_17 b1_16
  have s0_17 := Later.cell hl_17 s0_16
  have s1_17 := Later.cell hl_17 s1_16
  have t0_17 := Later.cell hl_17 t0_16
  have t1_17 := Later.cell hl_17 t1_16
  have zs0_17 := Later.frozen hl_17 (lt_of_cell s0_16) zs0_16
  have zs1_17 := Later.frozen hl_17 (lt_of_cell s1_16) zs1_16
  have zt0_17 := Later.frozen hl_17 (lt_of_cell t0_16) zt0_16
  have zt1_17 := Later.frozen hl_17 (lt_of_cell t1_16) zt1_16
  clear lt0_15
  clear lt1_15
  clear lt2_15
  clear lt3_15
  have lt0_17 : w.heap.size < w17.heap.size := lt_of_cell a0_17
  have lt1_17 : w.heap.size + 1 < w17.heap.size := lt_of_cell b0_17
  have lt2_17 : w3.heap.size < w17.heap.size := lt_of_cell s0_17
  have lt3_17 : w5.heap.size < w17.heap.size := lt_of_cell t0_17
  have hB_17 := Later.below hl_17 hB_16 (by omega)
  have hz_17 := Later.size hl_17
  clear hl_17 a0_16 a1_16 b0_16 b1_16 s0_16 s1_16 t0_16 t1_16 zs0_16 zs1_16 zt0_16 zt1_16 hB_16
  go_wp2_with fail
  obtain ⟨w18, hw_18⟩ : ∃ w18, ((w17.setCell ⟨w5.heap.size, 0, none⟩ (.int .i64 (resN (okB n d && okB m k) (n * k) (d * m)))).setCell ⟨w5.heap.size, 1, none⟩ (.int .i64 (resD (okB n d && okB m k) (n * k) (d * m)))) = w18 := ⟨_, rfl⟩
  rw [hw_18]
  have a0_18 := cell_set_other (b' := w5.heap.size) (o' := 1) (u := .int .i64 (resD (okB n d && okB m k) (n * k) (d * m))) (cell_set_other (b' := w5.heap.size) (o' := 0) (u := .int .i64 (resN (okB n d && okB m k) (n * k) (d * m))) a0_17 (by omega)) (by omega)
  rw [hw_18] at a0_18
  have a1_18 := cell_set_other (b' := w5.heap.size) (o' := 1) (u := .int .i64 (resD (okB n d && okB m k) (n * k) (d * m))) (cell_set_other (b' := w5.heap.size) (o' := 0) (u := .int .i64 (resN (okB n d && okB m k) (n * k) (d * m))) a1_17 (by omega)) (by omega)
  rw [hw_18] at a1_18
  have b0_18 := cell_set_other (b' := w5.heap.size) (o' := 1) (u := .int .i64 (resD (okB n d && okB m k) (n * k) (d * m))) (cell_set_other (b' := w5.heap.size) (o' := 0) (u := .int .i64 (resN (okB n d && okB m k) (n * k) (d * m))) b0_17 (by omega)) (by omega)
  rw [hw_18] at b0_18
  have b1_18 := cell_set_other (b' := w5.heap.size) (o' := 1) (u := .int .i64 (resD (okB n d && okB m k) (n * k) (d * m))) (cell_set_other (b' := w5.heap.size) (o' := 0) (u := .int .i64 (resN (okB n d && okB m k) (n * k) (d * m))) b1_17 (by omega)) (by omega)
  rw [hw_18] at b1_18
  have s0_18 := cell_set_other (b' := w5.heap.size) (o' := 1) (u := .int .i64 (resD (okB n d && okB m k) (n * k) (d * m))) (cell_set_other (b' := w5.heap.size) (o' := 0) (u := .int .i64 (resN (okB n d && okB m k) (n * k) (d * m))) s0_17 (by omega)) (by omega)
  rw [hw_18] at s0_18
  have s1_18 := cell_set_other (b' := w5.heap.size) (o' := 1) (u := .int .i64 (resD (okB n d && okB m k) (n * k) (d * m))) (cell_set_other (b' := w5.heap.size) (o' := 0) (u := .int .i64 (resN (okB n d && okB m k) (n * k) (d * m))) s1_17 (by omega)) (by omega)
  rw [hw_18] at s1_18
  have t0_18 := cell_set_off (o' := 1) (u := .int .i64 (resD (okB n d && okB m k) (n * k) (d * m))) (cell_set_same (u := .int .i64 (resN (okB n d && okB m k) (n * k) (d * m))) t0_17) (by omega)
  rw [hw_18] at t0_18
  have t1_18 := cell_set_same (u := .int .i64 (resD (okB n d && okB m k) (n * k) (d * m))) (cell_set_off (o' := 0) (u := .int .i64 (resN (okB n d && okB m k) (n * k) (d * m))) t1_17 (by omega))
  rw [hw_18] at t1_18
  have zs0_18 := frozen_set (b := w5.heap.size) (o := 1) (u := .int .i64 (resD (okB n d && okB m k) (n * k) (d * m))) (frozen_set (b := w5.heap.size) (o := 0) (u := .int .i64 (resN (okB n d && okB m k) (n * k) (d * m))) zs0_17)
  rw [hw_18] at zs0_18
  have zs1_18 := frozen_set (b := w5.heap.size) (o := 1) (u := .int .i64 (resD (okB n d && okB m k) (n * k) (d * m))) (frozen_set (b := w5.heap.size) (o := 0) (u := .int .i64 (resN (okB n d && okB m k) (n * k) (d * m))) zs1_17)
  rw [hw_18] at zs1_18
  have zt0_18 := frozen_set (b := w5.heap.size) (o := 1) (u := .int .i64 (resD (okB n d && okB m k) (n * k) (d * m))) (frozen_set (b := w5.heap.size) (o := 0) (u := .int .i64 (resN (okB n d && okB m k) (n * k) (d * m))) zt0_17)
  rw [hw_18] at zt0_18
  have zt1_18 := frozen_set (b := w5.heap.size) (o := 1) (u := .int .i64 (resD (okB n d && okB m k) (n * k) (d * m))) (frozen_set (b := w5.heap.size) (o := 0) (u := .int .i64 (resN (okB n d && okB m k) (n * k) (d * m))) zt1_17)
  rw [hw_18] at zt1_18
  have hB_18 := Kin.Below.setC (b := w5.heap.size) (o := 1) (v := .int .i64 (resD (okB n d && okB m k) (n * k) (d * m))) (Kin.Below.setC (b := w5.heap.size) (o := 0) (v := .int .i64 (resN (okB n d && okB m k) (n * k) (d * m))) hB_17 (by omega)) (by omega)
  rw [hw_18] at hB_18
  have hz_18 : w18.heap.size = w17.heap.size := by rw [← hw_18]; simp only [size_set]
  rw [← hz_18] at lt0_17 lt1_17 lt2_17 lt3_17
  have hq_18 : w18.heap.size ≤ w17.heap.size ∧ w17.heap.size ≤ w18.heap.size := by omega
  clear hw_18 hz_18 a0_17 a1_17 b0_17 b1_17 s0_17 s1_17 t0_17 t1_17 zs0_17 zs1_17 zt0_17 zt1_17 hB_17
  refine (cmp_any n d m k _ HN.out HD.out HM.out HK.out).mono ?_
  rintro e w19 ⟨rfl, hl_19⟩
  have a0_19 := Later.cell hl_19 a0_18
  have a1_19 := Later.cell hl_19 a1_18
  have b0_19 := Later.cell hl_19 b0_18
  have b1_19 := Later.cell hl_19 b1_18
  have s0_19 := Later.cell hl_19 s0_18
  have s1_19 := Later.cell hl_19 s1_18
  have t0_19 := Later.cell hl_19 t0_18
  have t1_19 := Later.cell hl_19 t1_18
  have zs0_19 := Later.frozen hl_19 (lt_of_cell s0_18) zs0_18
  have zs1_19 := Later.frozen hl_19 (lt_of_cell s1_18) zs1_18
  have zt0_19 := Later.frozen hl_19 (lt_of_cell t0_18) zt0_18
  have zt1_19 := Later.frozen hl_19 (lt_of_cell t1_18) zt1_18
  clear lt0_17
  clear lt1_17
  clear lt2_17
  clear lt3_17
  have lt0_19 : w.heap.size < w19.heap.size := lt_of_cell a0_19
  have lt1_19 : w.heap.size + 1 < w19.heap.size := lt_of_cell b0_19
  have lt2_19 : w3.heap.size < w19.heap.size := lt_of_cell s0_19
  have lt3_19 : w5.heap.size < w19.heap.size := lt_of_cell t0_19
  have hB_19 := Later.below hl_19 hB_18 (by omega)
  have hz_19 := Later.size hl_19
  clear hl_19 a0_18 a1_18 b0_18 b1_18 s0_18 s1_18 t0_18 t1_18 zs0_18 zs1_18 zt0_18 zt1_18 hB_18
  go_wp2_with fail
  refine (rcmp_any n d m k _).mono ?_
  rintro e w20 ⟨rfl, hl_20⟩
  have a0_20 := Later.cell hl_20 a0_19
  have a1_20 := Later.cell hl_20 a1_19
  have b0_20 := Later.cell hl_20 b0_19
  have b1_20 := Later.cell hl_20 b1_19
  have s0_20 := Later.cell hl_20 s0_19
  have s1_20 := Later.cell hl_20 s1_19
  have t0_20 := Later.cell hl_20 t0_19
  have t1_20 := Later.cell hl_20 t1_19
  have zs0_20 := Later.frozen hl_20 (lt_of_cell s0_19) zs0_19
  have zs1_20 := Later.frozen hl_20 (lt_of_cell s1_19) zs1_19
  have zt0_20 := Later.frozen hl_20 (lt_of_cell t0_19) zt0_19
  have zt1_20 := Later.frozen hl_20 (lt_of_cell t1_19) zt1_19
  clear lt0_19
  clear lt1_19
  clear lt2_19
  clear lt3_19
  have lt0_20 : w.heap.size < w20.heap.size := lt_of_cell a0_20
  have lt1_20 : w.heap.size + 1 < w20.heap.size := lt_of_cell b0_20
  have lt2_20 : w3.heap.size < w20.heap.size := lt_of_cell s0_20
  have lt3_20 : w5.heap.size < w20.heap.size := lt_of_cell t0_20
  have hB_20 := Later.below hl_20 hB_19 (by omega)
  have hz_20 := Later.size hl_20
  clear hl_20 a0_19 a1_19 b0_19 b1_19 s0_19 s1_19 t0_19 t1_19 zs0_19 zs1_19 zt0_19 zt1_19 hB_19
  go_wp2
  go_ret
  exact ⟨rfl, hB_20⟩
end R12
end Go.Proofs
