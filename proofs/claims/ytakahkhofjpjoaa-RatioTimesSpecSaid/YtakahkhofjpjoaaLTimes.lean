/- RatioTimesSpec walked. -/
import Derived.Test.YtakahkhofjpjoaaSane
import Derived.Test.YtakahkhofjpjoaaGenCell
namespace Go.Proofs
open Go.RowKit Go.Shelf Go.Kin
namespace R12
set_option maxRecDepth 100000 in
set_option maxHeartbeats 4000000 in
theorem ratioTimesSpec_any (n d m k j : Int) (w : World) (hn : I64 n) (hd : I64 d) (hm : I64 m) (hk : I64 k) (hj : I64 j) :
    Calls Try.prog 4 #[.agg #[.int .i64 n, .int .i64 d], .agg #[.int .i64 m, .int .i64 k], .int .i64 j] w fun e w' => e = .returned (.bool true) ∧ Below w.heap.size w w' := by
  have HN := Lib.hid hn; have HD := Lib.hid hd; have HM := Lib.hid hm; have HK := Lib.hid hk; have HJ := Lib.hid hj
  clear hn hd hm hk hj
  have hB_0 := Below.refl w.heap.size w
  go_enter Try.func4, Try.ntmps4
  go_wp2_with fail
  obtain ⟨w1, hw_1⟩ : ∃ w1, ((w.alloc (Obj.cells #[Value.int IntKind.i64 n, Value.int IntKind.i64 d] 23)).alloc (Obj.cells #[Value.int IntKind.i64 m, Value.int IntKind.i64 k] 23)) = w1 := ⟨_, rfl⟩
  rw [hw_1]
  have hl_1 : Later w w1 := by rw [← hw_1]; exact (Kin.Below.allocC (Kin.Below.allocC (Below.refl _ _) (Nat.le_refl _)) (by simp))
  have a0_1 : w1.cell? ⟨w.heap.size, 0, none⟩ = some (.int .i64 n) := by rw [← hw_1]; simp [go_sem]
  have a1_1 : w1.cell? ⟨w.heap.size, 1, none⟩ = some (.int .i64 d) := by rw [← hw_1]; simp [go_sem]
  have b0_1 : w1.cell? ⟨w.heap.size + 1, 0, none⟩ = some (.int .i64 m) := by rw [← hw_1]; simp [go_sem]
  have b1_1 : w1.cell? ⟨w.heap.size + 1, 1, none⟩ = some (.int .i64 k) := by rw [← hw_1]; simp [go_sem]
  have hy_1 : w.heap.size + 2 = w1.heap.size := by rw [← hw_1]; simp
  clear hw_1
  have hB_1 := Later.below hl_1 hB_0 (by omega)
  have hz_1 := Later.size hl_1
  clear hl_1  hB_0
  refine (sane_any _).mono ?_
  rintro e w2 ⟨rfl, hl_2⟩
  have a0_2 := Later.cell hl_2 a0_1
  have a1_2 := Later.cell hl_2 a1_1
  have b0_2 := Later.cell hl_2 b0_1
  have b1_2 := Later.cell hl_2 b1_1
  have lt0_2 : w.heap.size < w2.heap.size := lt_of_cell a0_2
  have lt1_2 : w.heap.size + 1 < w2.heap.size := lt_of_cell b0_2
  have hB_2 := Later.below hl_2 hB_1 (by omega)
  have hz_2 := Later.size hl_2
  clear hl_2 a0_1 a1_1 b0_1 b1_1 hB_1
  go_wp2_with fail
  refine (times_any n d j _ HN.out HD.out HJ.out).mono ?_
  rintro e w3 ⟨rfl, hl_3⟩
  have a0_3 := Later.cell hl_3 a0_2
  have a1_3 := Later.cell hl_3 a1_2
  have b0_3 := Later.cell hl_3 b0_2
  have b1_3 := Later.cell hl_3 b1_2
  clear lt0_2
  clear lt1_2
  have lt0_3 : w.heap.size < w3.heap.size := lt_of_cell a0_3
  have lt1_3 : w.heap.size + 1 < w3.heap.size := lt_of_cell b0_3
  have hB_3 := Later.below hl_3 hB_2 (by omega)
  have hz_3 := Later.size hl_3
  clear hl_3 a0_2 a1_2 b0_2 b1_2 hB_2
  go_wp2_with fail
  refine (rtimes_any n d j _ HN.out HD.out HJ.out).mono ?_
  rintro e w4 ⟨rfl, hl_4⟩
  have a0_4 := Later.cell hl_4 a0_3
  have a1_4 := Later.cell hl_4 a1_3
  have b0_4 := Later.cell hl_4 b0_3
  have b1_4 := Later.cell hl_4 b1_3
  clear lt0_3
  clear lt1_3
  have lt0_4 : w.heap.size < w4.heap.size := lt_of_cell a0_4
  have lt1_4 : w.heap.size + 1 < w4.heap.size := lt_of_cell b0_4
  have hB_4 := Later.below hl_4 hB_3 (by omega)
  have hz_4 := Later.size hl_4
  clear hl_4 a0_3 a1_3 b0_3 b1_3 hB_3
  go_wp2_with fail
  refine (between_any n d m k _ HN.out HD.out HM.out HK.out).mono ?_
  rintro e w5 ⟨rfl, hl_5⟩
  have a0_5 := Later.cell hl_5 a0_4
  have a1_5 := Later.cell hl_5 a1_4
  have b0_5 := Later.cell hl_5 b0_4
  have b1_5 := Later.cell hl_5 b1_4
  clear lt0_4
  clear lt1_4
  have lt0_5 : w.heap.size < w5.heap.size := lt_of_cell a0_5
  have lt1_5 : w.heap.size + 1 < w5.heap.size := lt_of_cell b0_5
  have hB_5 := Later.below hl_5 hB_4 (by omega)
  have hz_5 := Later.size hl_5
  clear hl_5 a0_4 a1_4 b0_4 b1_4 hB_4
  go_wp2_with fail
  obtain ⟨w6, hw_6⟩ : ∃ w6, (w5.alloc (Obj.cells #[Value.int IntKind.i64 (btN n d m k), Value.int IntKind.i64 (btD n d m k)] 23)) = w6 := ⟨_, rfl⟩
  rw [hw_6]
  have hl_6 : Later w5 w6 := by rw [← hw_6]; exact (Kin.Below.allocC (Below.refl _ _) (Nat.le_refl _))
  have x0_6 : w6.cell? ⟨w5.heap.size, 0, none⟩ = some (.int .i64 (btN n d m k)) := by rw [← hw_6]; simp [go_sem]
  have x1_6 : w6.cell? ⟨w5.heap.size, 1, none⟩ = some (.int .i64 (btD n d m k)) := by rw [← hw_6]; simp [go_sem]
  have hy_6 : w5.heap.size + 1 = w6.heap.size := by rw [← hw_6]; simp
  clear hw_6
  have a0_6 := Later.cell hl_6 a0_5
  have a1_6 := Later.cell hl_6 a1_5
  have b0_6 := Later.cell hl_6 b0_5
  have b1_6 := Later.cell hl_6 b1_5
  clear lt0_5
  clear lt1_5
  have lt0_6 : w.heap.size < w6.heap.size := lt_of_cell a0_6
  have lt1_6 : w.heap.size + 1 < w6.heap.size := lt_of_cell b0_6
  have hB_6 := Later.below hl_6 hB_5 (by omega)
  have hz_6 := Later.size hl_6
  clear hl_6 a0_5 a1_5 b0_5 b1_5 hB_5
  refine (rbetween_any n d m k _).mono ?_
  rintro e w7 ⟨rfl, hl_7⟩
  have a0_7 := Later.cell hl_7 a0_6
  have a1_7 := Later.cell hl_7 a1_6
  have b0_7 := Later.cell hl_7 b0_6
  have b1_7 := Later.cell hl_7 b1_6
  have x0_7 := Later.cell hl_7 x0_6
  have x1_7 := Later.cell hl_7 x1_6
  clear lt0_6
  clear lt1_6
  have lt0_7 : w.heap.size < w7.heap.size := lt_of_cell a0_7
  have lt1_7 : w.heap.size + 1 < w7.heap.size := lt_of_cell b0_7
  have lt2_7 : w5.heap.size < w7.heap.size := lt_of_cell x0_7
  have hB_7 := Later.below hl_7 hB_6 (by omega)
  have hz_7 := Later.size hl_7
  clear hl_7 a0_6 a1_6 b0_6 b1_6 x0_6 x1_6 hB_6
  go_wp2_with fail
  obtain ⟨w8, hw_8⟩ : ∃ w8, (w7.alloc (Obj.cells #[Value.int IntKind.i64 (btN n d m k), Value.int IntKind.i64 (btD n d m k)] 23)) = w8 := ⟨_, rfl⟩
  rw [hw_8]
  have hl_8 : Later w7 w8 := by rw [← hw_8]; exact (Kin.Below.allocC (Below.refl _ _) (Nat.le_refl _))
  have y0_8 : w8.cell? ⟨w7.heap.size, 0, none⟩ = some (.int .i64 (btN n d m k)) := by rw [← hw_8]; simp [go_sem]
  have y1_8 : w8.cell? ⟨w7.heap.size, 1, none⟩ = some (.int .i64 (btD n d m k)) := by rw [← hw_8]; simp [go_sem]
  have hy_8 : w7.heap.size + 1 = w8.heap.size := by rw [← hw_8]; simp
  clear hw_8
  have a0_8 := Later.cell hl_8 a0_7
  have a1_8 := Later.cell hl_8 a1_7
  have b0_8 := Later.cell hl_8 b0_7
  have b1_8 := Later.cell hl_8 b1_7
  have x0_8 := Later.cell hl_8 x0_7
  have x1_8 := Later.cell hl_8 x1_7
  clear lt0_7
  clear lt1_7
  clear lt2_7
  have lt0_8 : w.heap.size < w8.heap.size := lt_of_cell a0_8
  have lt1_8 : w.heap.size + 1 < w8.heap.size := lt_of_cell b0_8
  have lt2_8 : w5.heap.size < w8.heap.size := lt_of_cell x0_8
  have hB_8 := Later.below hl_8 hB_7 (by omega)
  have hz_8 := Later.size hl_8
  clear hl_8 a0_7 a1_7 b0_7 b1_7 x0_7 x1_7 hB_7
  go_ret
  exact ⟨rfl, hB_8⟩
end R12
end Go.Proofs
