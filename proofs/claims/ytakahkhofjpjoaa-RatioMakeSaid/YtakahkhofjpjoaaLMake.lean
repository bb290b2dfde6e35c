/- RatioMake walked. -/
import Derived.Test.YtakahkhofjpjoaaFew
import Derived.Test.YtakahkhofjpjoaaTmMath
namespace Go.Proofs
open Go.RowKit Go.Shelf Go.Kin
namespace R12
set_option maxRecDepth 100000 in
set_option maxHeartbeats 2000000 in
theorem ratioMake_z1 (n d k m : Int) (w : World) (n1 : -2147483648 ≤ n) (n2 : n ≤ 2147483647) (d1 : -2147483648 ≤ d) (d2 : d ≤ 2147483647) (k1 : -32768 ≤ k) (k2 : k ≤ 32767) (m1 : -2147483648 ≤ m) (m2 : m ≤ 2147483647) (hd : d = 0) :
    Calls Try.prog 6 #[.int .i32 n, .int .i32 d, .int .i16 k, .int .i32 m] w fun e w' => e = .returned (.bool true) ∧ Below w.heap.size w w' := by
  have hz : (d == 0) = true := by simp [hd]
  clear hd
  have HZ := Lib.hid (mk_zero n)
  have hB_0 := Below.refl w.heap.size w
  go_enter Try.func6, Try.ntmps6
  go_wp2_with fail
  refine (sane_any _).mono ?_
  rintro e w1 ⟨rfl, hl_1⟩
  have hB_1 := Later.below hl_1 hB_0 (by omega)
  have hz_1 := Later.size hl_1
  clear hl_1  hB_0
  go_wp2_with fail
  refine (make_any n 0 _ (by omega) (by omega) (by omega) (by omega)).mono ?_
  rintro e w2 ⟨rfl, hl_2⟩
  rw [HZ.out.1, HZ.out.2.1, HZ.out.2.2]
  have hB_2 := Later.below hl_2 hB_1 (by omega)
  have hz_2 := Later.size hl_2
  clear hl_2  hB_1
  go_wp2
  go_ret
  exact ⟨rfl, Kin.Below.allocC hB_2 (by omega)⟩
set_option maxRecDepth 100000 in
set_option maxHeartbeats 2000000 in
theorem ratioMake_z2 (n d k m : Int) (w : World) (n1 : -2147483648 ≤ n) (n2 : n ≤ 2147483647) (d1 : -2147483648 ≤ d) (d2 : d ≤ 2147483647) (k1 : -32768 ≤ k) (k2 : k ≤ 32767) (m1 : -2147483648 ≤ m) (m2 : m ≤ 2147483647) (hd : d ≠ 0) (hk : k = 0) :
    Calls Try.prog 6 #[.int .i32 n, .int .i32 d, .int .i16 k, .int .i32 m] w fun e w' => e = .returned (.bool true) ∧ Below w.heap.size w w' := by
  have hz : (d == 0) = false := by simp [hd]
  have hz2 : (k == 0) = true := by simp [hk]
  clear hd hk
  have HZ := Lib.hid (mk_zero n)
  have hB_0 := Below.refl w.heap.size w
  go_enter Try.func6, Try.ntmps6
  go_wp2_with fail
  refine (sane_any _).mono ?_
  rintro e w1 ⟨rfl, hl_1⟩
  have hB_1 := Later.below hl_1 hB_0 (by omega)
  have hz_1 := Later.size hl_1
  clear hl_1  hB_0
  go_wp2_with fail
  refine (make_any n 0 _ (by omega) (by omega) (by omega) (by omega)).mono ?_
  rintro e w2 ⟨rfl, hl_2⟩
  rw [HZ.out.1, HZ.out.2.1, HZ.out.2.2]
  have hB_2 := Later.below hl_2 hB_1 (by omega)
  have hz_2 := Later.size hl_2
  clear hl_2  hB_1
  go_wp2
  go_ret
  exact ⟨rfl, Kin.Below.allocC hB_2 (by omega)⟩
set_option maxRecDepth 100000 in
set_option maxHeartbeats 2000000 in
theorem ratioMake_lim (n d k m : Int) (w : World) (n1 : -2147483648 ≤ n) (n2 : n ≤ 2147483647) (d1 : -2147483648 ≤ d) (d2 : d ≤ 2147483647) (k1 : -32768 ≤ k) (k2 : k ≤ 32767) (m1 : -2147483648 ≤ m) (m2 : m ≤ 2147483647) (hd : d ≠ 0) (hk : k ≠ 0) (he : mkE n d = 2) :
    Calls Try.prog 6 #[.int .i32 n, .int .i32 d, .int .i16 k, .int .i32 m] w fun e w' => e = .returned (.bool true) ∧ Below w.heap.size w w' := by
  have hz : (d == 0) = false := by simp [hd]
  have hz2 : (k == 0) = false := by simp [hk]
  have HS := Lib.hid (mk_scale (n := n) hd hk)
  obtain ⟨p1, p2⟩ : -70368744177664 ≤ n * k ∧ n * k ≤ 70368744177664 := by have := mul_bd (a := n) (b := k) (A := 2147483648) (B := 32768) (by omega) (by omega); omega
  obtain ⟨p3, p4⟩ : -70368744177664 ≤ d * k ∧ d * k ≤ 70368744177664 := by have := mul_bd (a := d) (b := k) (A := 2147483648) (B := 32768) (by omega) (by omega); omega
  have hl := mk_lim hd (by omega : mkE n d ≠ 0)
  have HL : Hid (mkN n d = 0 ∧ mkD n d = 0 ∧ mkE n d = 2) := Lib.hid ⟨hl.2.1, hl.2.2, hl.1⟩
  clear hd hk hl he
  have hB_0 := Below.refl w.heap.size w
  go_enter Try.func6, Try.ntmps6
  go_wp2_with fail
  refine (sane_any _).mono ?_
  rintro e w1 ⟨rfl, hl_1⟩
  have hB_1 := Later.below hl_1 hB_0 (by omega)
  have hz_1 := Later.size hl_1
  clear hl_1  hB_0
  go_wp2_with fail
  refine (make_any n d _ (by omega) (by omega) (by omega) (by omega)).mono ?_
  rintro e w2 ⟨rfl, hl_2⟩
  rw [HL.out.1, HL.out.2.1, HL.out.2.2]
  have hB_2 := Later.below hl_2 hB_1 (by omega)
  have hz_2 := Later.size hl_2
  clear hl_2  hB_1
  go_wp2_with fail
  obtain ⟨w3, hw_3⟩ : ∃ w3, (w2.alloc (Obj.cells #[Value.int IntKind.i64 0, Value.int IntKind.i64 0] 23)) = w3 := ⟨_, rfl⟩
  rw [hw_3]
  have hl_3 : Later w2 w3 := by rw [← hw_3]; exact (Kin.Below.allocC (Below.refl _ _) (Nat.le_refl _))
  have a0_3 : w3.cell? ⟨w2.heap.size, 0, none⟩ = some (.int .i64 0) := by rw [← hw_3]; simp [go_sem]
  have a1_3 : w3.cell? ⟨w2.heap.size, 1, none⟩ = some (.int .i64 0) := by rw [← hw_3]; simp [go_sem]
  have hy_3 : w2.heap.size + 1 = w3.heap.size := by rw [← hw_3]; simp
  clear hw_3
  have hB_3 := Later.below hl_3 hB_2 (by omega)
  have hz_3 := Later.size hl_3
  clear hl_3  hB_2
  refine (make_any (n * k) (d * k) _ (by omega) (by omega) (by omega) (by omega)).mono ?_
  rintro e w4 ⟨rfl, hl_4⟩
  rw [HS.out.1, HS.out.2.1, HS.out.2.2, HL.out.1, HL.out.2.1, HL.out.2.2]
  have a0_4 := Later.cell hl_4 a0_3
  have a1_4 := Later.cell hl_4 a1_3
  have lt0_4 : w2.heap.size < w4.heap.size := lt_of_cell a0_4
  have hB_4 := Later.below hl_4 hB_3 (by omega)
  have hz_4 := Later.size hl_4
  clear hl_4 a0_3 a1_3 hB_3
  go_wp2
  go_ret
  exact ⟨rfl, Kin.Below.allocC hB_4 (by omega)⟩
set_option maxRecDepth 100000 in
set_option maxHeartbeats 2000000 in
theorem ratioMake_ok (n d k m : Int) (w : World) (n1 : -2147483648 ≤ n) (n2 : n ≤ 2147483647) (d1 : -2147483648 ≤ d) (d2 : d ≤ 2147483647) (k1 : -32768 ≤ k) (k2 : k ≤ 32767) (m1 : -2147483648 ≤ m) (m2 : m ≤ 2147483647) (hd : d ≠ 0) (hk : k ≠ 0) (he : mkE n d = 0) :
    Calls Try.prog 6 #[.int .i32 n, .int .i32 d, .int .i16 k, .int .i32 m] w fun e w' => e = .returned (.bool true) ∧ Below w.heap.size w w' := by
  have hz : (d == 0) = false := by simp [hd]
  have hz2 : (k == 0) = false := by simp [hk]
  have HS := Lib.hid (mk_scale (n := n) hd hk)
  obtain ⟨p1, p2⟩ : -70368744177664 ≤ n * k ∧ n * k ≤ 70368744177664 := by have := mul_bd (a := n) (b := k) (A := 2147483648) (B := 32768) (by omega) (by omega); omega
  obtain ⟨p3, p4⟩ : -70368744177664 ≤ d * k ∧ d * k ≤ 70368744177664 := by have := mul_bd (a := d) (b := k) (A := 2147483648) (B := 32768) (by omega) (by omega); omega
  obtain ⟨ok, hcr, hD1, hD2, hN1⟩ := mk_spec (x := n) hd he
  have HC := Lib.hid (chkE_true ok)
  obtain ⟨v1, v2, v3, v4, -⟩ := okB_iff.1 ok
  have hb1 := tmod_bd m 1073741824 (by omega)
  obtain ⟨lo, hi, t1, t2, c1, c2, c3, c4, c5, c6, c7, c8, c9, c10, c11, c12, c13, c14⟩ := tm_law (b := m.tmod 1073741824) ok (by omega)
  obtain ⟨q1, q2⟩ : -2305843009213693952 ≤ lo * mkD n d ∧ lo * mkD n d ≤ 2305843009213693952 := by
    have := Int.emod_lt_of_pos (mkN n d * m.tmod 1073741824) (by omega : 0 < mkD n d); omega
  obtain ⟨q3, q4⟩ : -2305843009213693952 ≤ hi * mkD n d ∧ hi * mkD n d ≤ 2305843009213693952 := by
    rw [Int.sub_mul, Int.one_mul] at c7; omega
  obtain ⟨q5, q6⟩ : -2305843009213693952 ≤ (lo + 1) * mkD n d ∧ (lo + 1) * mkD n d ≤ 3305843009213693952 := by
    rw [Int.add_mul, Int.one_mul]; omega
  obtain ⟨q7, q8⟩ : -3305843009213693952 ≤ (hi - 1) * mkD n d ∧ (hi - 1) * mkD n d ≤ 2305843009213693952 := by
    rw [Int.sub_mul, Int.one_mul]; omega
  clear c8
  have T1 := Lib.hid t1; have T2 := Lib.hid t2
  clear t1 t2 ok hd hk
  have HE := Lib.hid he; clear he
  have hne : (mkN n d * d != n * mkD n d) = false := by rw [hcr]; simp
  obtain ⟨p5, p6⟩ : -2305843009213693952 ≤ mkN n d * d ∧ mkN n d * d ≤ 2305843009213693952 := by have := mul_bd (a := mkN n d) (b := d) (A := 1073741824) (B := 2147483648) (by omega) (by omega); omega
  obtain ⟨p7, p8⟩ : -2305843009213693952 ≤ n * mkD n d ∧ n * mkD n d ≤ 2305843009213693952 := by have := mul_bd (a := n) (b := mkD n d) (A := 2147483648) (B := 1073741824) (by omega) (by omega); omega
  clear hcr
  have hB_0 := Below.refl w.heap.size w
  go_enter Try.func6, Try.ntmps6
  go_wp2_with fail
  refine (sane_any _).mono ?_
  rintro e w1 ⟨rfl, hl_1⟩
  have hB_1 := Later.below hl_1 hB_0 (by omega)
  have hz_1 := Later.size hl_1
  clear hl_1  hB_0
  go_wp2_with fail
  refine (make_any n d _ (by omega) (by omega) (by omega) (by omega)).mono ?_
  rintro e w2 ⟨rfl, hl_2⟩
  rw [HE.out]
  have hB_2 := Later.below hl_2 hB_1 (by omega)
  have hz_2 := Later.size hl_2
  clear hl_2  hB_1
  go_wp2_with fail
  obtain ⟨w3, hw_3⟩ : ∃ w3, (w2.alloc (Obj.cells #[Value.int IntKind.i64 (mkN n d), Value.int IntKind.i64 (mkD n d)] 23)) = w3 := ⟨_, rfl⟩
  rw [hw_3]
  have hl_3 : Later w2 w3 := by rw [← hw_3]; exact (Kin.Below.allocC (Below.refl _ _) (Nat.le_refl _))
  have a0_3 : w3.cell? ⟨w2.heap.size, 0, none⟩ = some (.int .i64 (mkN n d)) := by rw [← hw_3]; simp [go_sem]
  have a1_3 : w3.cell? ⟨w2.heap.size, 1, none⟩ = some (.int .i64 (mkD n d)) := by rw [← hw_3]; simp [go_sem]
  have hy_3 : w2.heap.size + 1 = w3.heap.size := by rw [← hw_3]; simp
  clear hw_3
  have hB_3 := Later.below hl_3 hB_2 (by omega)
  have hz_3 := Later.size hl_3
  clear hl_3  hB_2
  refine (make_any (n * k) (d * k) _ (by omega) (by omega) (by omega) (by omega)).mono ?_
  rintro e w4 ⟨rfl, hl_4⟩
  rw [HS.out.1, HS.out.2.1, HS.out.2.2, HE.out]
  have a0_4 := Later.cell hl_4 a0_3
  have a1_4 := Later.cell hl_4 a1_3
  have lt0_4 : w2.heap.size < w4.heap.size := lt_of_cell a0_4
  have hB_4 := Later.below hl_4 hB_3 (by omega)
  have hz_4 := Later.size hl_4
  clear hl_4 a0_3 a1_3 hB_3
  go_wp2_with fail
  obtain ⟨w5, hw_5⟩ : ∃ w5, (w4.alloc (Obj.cells #[Value.int IntKind.i64 (mkN n d), Value.int IntKind.i64 (mkD n d)] 23)) = w5 := ⟨_, rfl⟩
  rw [hw_5]
  have hl_5 : Later w4 w5 := by rw [← hw_5]; exact (Kin.Below.allocC (Below.refl _ _) (Nat.le_refl _))
  have b0_5 : w5.cell? ⟨w4.heap.size, 0, none⟩ = some (.int .i64 (mkN n d)) := by rw [← hw_5]; simp [go_sem]
  have b1_5 : w5.cell? ⟨w4.heap.size, 1, none⟩ = some (.int .i64 (mkD n d)) := by rw [← hw_5]; simp [go_sem]
  have hy_5 : w4.heap.size + 1 = w5.heap.size := by rw [← hw_5]; simp
  clear hw_5
  have a0_5 := Later.cell hl_5 a0_4
  have a1_5 := Later.cell hl_5 a1_4
  clear lt0_4
  have lt0_5 : w2.heap.size < w5.heap.size := lt_of_cell a0_5
  have hB_5 := Later.below hl_5 hB_4 (by omega)
  have hz_5 := Later.size hl_5
  clear hl_5 a0_4 a1_4 hB_4
  refine (check_any (mkN n d) (mkD n d) _ (by omega) (by omega) (by omega) (by omega)).mono ?_
  rintro e w6 ⟨rfl, hl_6⟩
  rw [HC.out]
  have a0_6 := Later.cell hl_6 a0_5
  have a1_6 := Later.cell hl_6 a1_5
  have b0_6 := Later.cell hl_6 b0_5
  have b1_6 := Later.cell hl_6 b1_5
  clear lt0_5
  have lt0_6 : w2.heap.size < w6.heap.size := lt_of_cell a0_6
  have lt1_6 : w4.heap.size < w6.heap.size := lt_of_cell b0_6
  have hB_6 := Later.below hl_6 hB_5 (by omega)
  have hz_6 := Later.size hl_6
  clear hl_6 a0_5 a1_5 b0_5 b1_5 hB_5
  go_wp2_with fail
  refine (times_any (mkN n d) (mkD n d) (m.tmod 1073741824) _ ⟨by omega, by omega⟩ ⟨by omega, by omega⟩ ⟨by omega, by omega⟩).mono ?_
  rintro e w7 ⟨rfl, hl_7⟩
  rw [T1.out.1, T1.out.2.1, T1.out.2.2]
  have a0_7 := Later.cell hl_7 a0_6
  have a1_7 := Later.cell hl_7 a1_6
  have b0_7 := Later.cell hl_7 b0_6
  have b1_7 := Later.cell hl_7 b1_6
  clear lt0_6
  clear lt1_6
  have lt0_7 : w2.heap.size < w7.heap.size := lt_of_cell a0_7
  have lt1_7 : w4.heap.size < w7.heap.size := lt_of_cell b0_7
  have hB_7 := Later.below hl_7 hB_6 (by omega)
  have hz_7 := Later.size hl_7
  clear hl_7 a0_6 a1_6 b0_6 b1_6 hB_6
  go_wp2_with fail
  refine (times_any (mkN n d) (mkD n d) (-(m.tmod 1073741824)) _ ⟨by omega, by omega⟩ ⟨by omega, by omega⟩ ⟨by omega, by omega⟩).mono ?_
  rintro e w8 ⟨rfl, hl_8⟩
  rw [T2.out.1, T2.out.2.1, T2.out.2.2]
  have a0_8 := Later.cell hl_8 a0_7
  have a1_8 := Later.cell hl_8 a1_7
  have b0_8 := Later.cell hl_8 b0_7
  have b1_8 := Later.cell hl_8 b1_7
  clear lt0_7
  clear lt1_7
  have lt0_8 : w2.heap.size < w8.heap.size := lt_of_cell a0_8
  have lt1_8 : w4.heap.size < w8.heap.size := lt_of_cell b0_8
  have hB_8 := Later.below hl_8 hB_7 (by omega)
  have hz_8 := Later.size hl_8
  clear hl_8 a0_7 a1_7 b0_7 b1_7 hB_7
  go_wp2_with fail
  obtain ⟨w9, hw_9⟩ : ∃ w9, (w8.alloc (Obj.cells #[Value.int IntKind.i64 0, Value.int IntKind.i64 0] 25)) = w9 := ⟨_, rfl⟩
  rw [hw_9]
  have hl_9 : Later w8 w9 := by rw [← hw_9]; exact (Kin.Below.allocC (Below.refl _ _) (Nat.le_refl _))
  have l0_9 : w9.cell? ⟨w8.heap.size, 0, none⟩ = some (.int .i64 0) := by rw [← hw_9]; simp [go_sem]
  have l1_9 : w9.cell? ⟨w8.heap.size, 1, none⟩ = some (.int .i64 0) := by rw [← hw_9]; simp [go_sem]
  have hy_9 : w8.heap.size + 1 = w9.heap.size := by rw [← hw_9]; simp
  clear hw_9
  have a0_9 := Later.cell hl_9 a0_8
  have a1_9 := Later.cell hl_9 a1_8
  have b0_9 := Later.cell hl_9 b0_8
  have b1_9 := Later.cell hl_9 b1_8
  clear lt0_8
  clear lt1_8
  have lt0_9 : w2.heap.size < w9.heap.size := lt_of_cell a0_9
  have lt1_9 : w4.heap.size < w9.heap.size := lt_of_cell b0_9
  have hB_9 := Later.below hl_9 hB_8 (by omega)
  have hz_9 := Later.size hl_9
  clear hl_9 a0_8 a1_8 b0_8 b1_8 hB_8
  refine (all_zero _ 2 2 _ (by omega) (fun i hi => by match i, hi with | 0, _ => assumption | 1, _ => assumption)).mono ?_
  rintro e w' ⟨rfl, rfl⟩
  have hg1 : decide (hi - lo < 0) = false := by simp; omega
  have hg2 : decide (1 < hi - lo) = false := by simp; omega
  by_cases hz0 : hi = lo
  · have e1 : (hi == lo) = true := by simp [hz0]
    have e2 : ((mkN n d * m.tmod 1073741824).tmod (mkD n d) == 0) = true := by simp [c3.1 hz0]
    have hz1 : lo ≤ hi ∧ hi ≤ lo := by omega
    clear c3 hz0
    go_wp2
    go_ret
    exact ⟨rfl, hB_9⟩
  · have e1 : (hi == lo) = false := by simp [hz0]
    have e2 : ((mkN n d * m.tmod 1073741824).tmod (mkD n d) == 0) = false := by simp; exact fun e => hz0 (c3.2 e)
    clear c3 hz0
    go_wp2
    go_ret
    exact ⟨rfl, hB_9⟩
theorem ratioMake_any (n d k m : Int) (w : World) (n1 : -2147483648 ≤ n) (n2 : n ≤ 2147483647) (d1 : -2147483648 ≤ d) (d2 : d ≤ 2147483647) (k1 : -32768 ≤ k) (k2 : k ≤ 32767) (m1 : -2147483648 ≤ m) (m2 : m ≤ 2147483647) :
    Calls Try.prog 6 #[.int .i32 n, .int .i32 d, .int .i16 k, .int .i32 m] w fun e w' => e = .returned (.bool true) ∧ Below w.heap.size w w' := by
  by_cases hd : d = 0
  · exact ratioMake_z1 n d k m w n1 n2 d1 d2 k1 k2 m1 m2 hd
  · by_cases hk : k = 0
    · exact ratioMake_z2 n d k m w n1 n2 d1 d2 k1 k2 m1 m2 hd hk
    · rcases mk_cases (x := n) hd with he | he
      · exact ratioMake_ok n d k m w n1 n2 d1 d2 k1 k2 m1 m2 hd hk he
      · exact ratioMake_lim n d k m w n1 n2 d1 d2 k1 k2 m1 m2 hd hk he
end R12
end Go.Proofs
