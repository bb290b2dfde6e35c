/- The reference's Between walked. -/
import Derived.Test.YtakahkhofjpjoaaBt
namespace Go.Proofs
open Go.RowKit Go.Shelf Go.Kin
namespace R12
set_option maxHeartbeats 4000000 in
theorem rbetween_any (n d m k : Int) (w : World) :
    Calls Try.prog 18 #[.agg #[.int .i64 n, .int .i64 d], .agg #[.int .i64 m, .int .i64 k]] w fun e w' => e = .returned (.tuple #[.agg #[.int .i64 (btN n d m k), .int .i64 (btD n d m k)], .int .i64 (btE n d m k)]) ∧ Below w.heap.size w w' := by
  obtain ⟨W0, hW0⟩ : ∃ W0, (((w.alloc (Obj.cells #[Value.int IntKind.i64 n, Value.int IntKind.i64 d] 23)).alloc (Obj.cells #[Value.int IntKind.i64 m, Value.int IntKind.i64 k] 23)).alloc (Obj.cells #[Value.int IntKind.i64 0, Value.int IntKind.i64 0] 23)) = W0 := ⟨_, rfl⟩
  have hB0 : Below w.heap.size w W0 := by rw [← hW0]; exact Kin.Below.allocC (Kin.Below.allocC (Kin.Below.allocC (Below.refl w.heap.size w) (Nat.le_refl _)) (by simp)) (by simp; omega)
  have hs0 : W0.heap.size = w.heap.size + 3 := by rw [← hW0]; simp
  have b1 : W0.cell? ⟨w.heap.size, 0, none⟩ = some (.int .i64 n) := by rw [← hW0]; simp [go_sem]
  have b2 : W0.cell? ⟨w.heap.size, 1, none⟩ = some (.int .i64 d) := by rw [← hW0]; simp [go_sem]
  have b3 : W0.cell? ⟨w.heap.size + 1, 0, none⟩ = some (.int .i64 m) := by rw [← hW0]; simp [go_sem]
  have b4 : W0.cell? ⟨w.heap.size + 1, 1, none⟩ = some (.int .i64 k) := by rw [← hW0]; simp [go_sem]
  have b5 : W0.cell? ⟨w.heap.size + 1 + 1, 0, none⟩ = some (.int .i64 0) := by rw [← hW0]; simp [go_sem]
  have b6 : W0.cell? ⟨w.heap.size + 1 + 1, 1, none⟩ = some (.int .i64 0) := by rw [← hW0]; simp [go_sem]
  have b7 : W0.frozen? ⟨w.heap.size + 1 + 1, 0, none⟩ = false := by rw [← hW0]; simp [go_sem]
  have b8 : W0.frozen? ⟨w.heap.size + 1 + 1, 1, none⟩ = false := by rw [← hW0]; simp [go_sem]
  have HW := Lib.hid hW0; clear hW0
  have HS := Lib.hid hs0; clear hs0
  cases hb : (okB n d && okB m k)
  · have H := Lib.hid (bt_bad hb)
    have HB := Lib.hid hb; clear hb
    go_enter Try.func18, Try.ntmps18
    go_wp2_with fail
    rw [HW.out]
    refine (both_any n d m k _).mono ?_
    rintro e w1 ⟨rfl, hl1⟩
    rw [HB.out]
    have hB1 := Later.below hl1 hB0 (by rw [HS.out]; omega)
    have hs1 := Later.size hl1
    rw [HS.out] at hs1
    have a1 := Later.cell hl1 b1; have a2 := Later.cell hl1 b2; have a3 := Later.cell hl1 b3; have a4 := Later.cell hl1 b4
    have a5 := Later.cell hl1 b5; have a6 := Later.cell hl1 b6; have a7 := Later.frozen hl1 (lt_of_cell b5) b7; have a8 := Later.frozen hl1 (lt_of_cell b6) b8
    clear hl1 b1 b2 b3 b4 b5 b6 b7 b8
    go_wp2
    refine bodyPost_ret (v := .tuple #[.agg #[.int .i64 0, .int .i64 0], .int .i64 120]) ?_ rfl ⟨by rw [H.out.1, H.out.2.1, H.out.2.2], Kin.Below.setC (Kin.Below.setC hB1 (by omega)) (by omega)⟩
    simp (maxDischargeDepth := 8) [results, Try.results18, go_sem, a5, a6]
  · have HB := Lib.hid hb
    have hb' := hb
    rw [Bool.and_eq_true] at hb'
    obtain ⟨v1, v2, v3, v4, -⟩ := okB_iff.1 hb'.1; obtain ⟨u1, u2, u3, u4, -⟩ := okB_iff.1 hb'.2
    clear hb'
    by_cases hlt : n * k < m * d
    · have HL : Hid (decide (n * k < m * d) = true) := Lib.hid (by simp [hlt])
      by_cases hn0 : n < 0
      · by_cases hm0 : 0 < m
        · have H := Lib.hid (bt_zero hb hlt hn0 hm0)
          clear hb hlt
          go_enter Try.func18, Try.ntmps18
          go_wp2_with fail
          rw [HW.out]
          refine (both_any n d m k _).mono ?_
          rintro e w1 ⟨rfl, hl1⟩
          rw [HB.out]
          have hB1 := Later.below hl1 hB0 (by rw [HS.out]; omega)
          have hs1 := Later.size hl1
          rw [HS.out] at hs1
          have a1 := Later.cell hl1 b1; have a2 := Later.cell hl1 b2; have a3 := Later.cell hl1 b3; have a4 := Later.cell hl1 b4
          have a5 := Later.cell hl1 b5; have a6 := Later.cell hl1 b6; have a7 := Later.frozen hl1 (lt_of_cell b5) b7; have a8 := Later.frozen hl1 (lt_of_cell b6) b8
          clear hl1 b1 b2 b3 b4 b5 b6 b7 b8
          go_wp2_with fail
          refine (less_any n d m k _ (by omega) (by omega) (by omega) (by omega) (by omega) (by omega) (by omega) (by omega)).mono ?_
          rintro e w2 ⟨rfl, hl2⟩
          rw [HL.out]
          have hB2 := Later.below hl2 hB1 (by omega)
          have hs2 := Later.size hl2
          have c1 := Later.cell hl2 a1; have c2 := Later.cell hl2 a2; have c3 := Later.cell hl2 a3; have c4 := Later.cell hl2 a4
          have c5 := Later.cell hl2 a5; have c6 := Later.cell hl2 a6; have c7 := Later.frozen hl2 (lt_of_cell a5) a7; have c8 := Later.frozen hl2 (lt_of_cell a6) a8
          clear hl2 a1 a2 a3 a4 a5 a6 a7 a8
          go_wp2
          refine bodyPost_ret (v := .tuple #[.agg #[.int .i64 0, .int .i64 1], .int .i64 0]) ?_ rfl ⟨by rw [H.out.1, H.out.2.1, H.out.2.2], Kin.Below.setC (Kin.Below.setC hB2 (by omega)) (by omega)⟩
          simp (maxDischargeDepth := 8) [results, Try.results18, go_sem, c5, c6]
        · have H := Lib.hid (bt_neg hb hlt hn0 hm0)
          have HI : Hid (Sin (-m) k (-n) d) := Lib.hid ⟨by omega, by omega, by omega, by rw [Int.neg_mul, Int.neg_mul]; omega, by omega, by omega, by omega, by omega⟩
          clear hb hlt
          obtain ⟨r1, r2, r3, r4⟩ := smp_bd fuelB HI.out (fuel_ok u2 v2)
          go_enter Try.func18, Try.ntmps18
          go_wp2_with fail
          rw [HW.out]
          refine (both_any n d m k _).mono ?_
          rintro e w1 ⟨rfl, hl1⟩
          rw [HB.out]
          have hB1 := Later.below hl1 hB0 (by rw [HS.out]; omega)
          have hs1 := Later.size hl1
          rw [HS.out] at hs1
          have a1 := Later.cell hl1 b1; have a2 := Later.cell hl1 b2; have a3 := Later.cell hl1 b3; have a4 := Later.cell hl1 b4
          have a5 := Later.cell hl1 b5; have a6 := Later.cell hl1 b6; have a7 := Later.frozen hl1 (lt_of_cell b5) b7; have a8 := Later.frozen hl1 (lt_of_cell b6) b8
          clear hl1 b1 b2 b3 b4 b5 b6 b7 b8
          go_wp2_with fail
          refine (less_any n d m k _ (by omega) (by omega) (by omega) (by omega) (by omega) (by omega) (by omega) (by omega)).mono ?_
          rintro e w2 ⟨rfl, hl2⟩
          rw [HL.out]
          have hB2 := Later.below hl2 hB1 (by omega)
          have hs2 := Later.size hl2
          have c1 := Later.cell hl2 a1; have c2 := Later.cell hl2 a2; have c3 := Later.cell hl2 a3; have c4 := Later.cell hl2 a4
          have c5 := Later.cell hl2 a5; have c6 := Later.cell hl2 a6; have c7 := Later.frozen hl2 (lt_of_cell a5) a7; have c8 := Later.frozen hl2 (lt_of_cell a6) a8
          clear hl2 a1 a2 a3 a4 a5 a6 a7 a8
          go_wp2_with fail
          refine (rsimp_any fuelB (-m) k (-n) d w2 HI.out (fuel_ok u2 v2)).mono ?_
          rintro e w3 ⟨rfl, hl3⟩
          have hB3 := Later.below hl3 hB2 (by omega)
          have hs3 := Later.size hl3
          have hs4 : w.heap.size + 1 + 1 < w3.heap.size := by omega
          have d5 := Later.cell hl3 c5; have d6 := Later.cell hl3 c6; have d7 := Later.frozen hl3 (lt_of_cell c5) c7; have d8 := Later.frozen hl3 (lt_of_cell c6) c8
          clear hl3 c1 c2 c3 c4 c5 c6 c7 c8
          go_wp2_with fail
          obtain ⟨w4, hw4⟩ : ∃ w4, w3.alloc (Obj.cells #[Value.int IntKind.i64 (smp fuelB (-m) k (-n) d).1, Value.int IntKind.i64 (smp fuelB (-m) k (-n) d).2] 53) = w4 := ⟨_, rfl⟩
          rw [hw4]
          have hl4 : Later w3 w4 := by rw [← hw4]; exact (Below.refl _ _).alloc (Nat.le_refl _) _
          have hB4 := Later.below hl4 hB3 (by omega)
          have hs5 := Later.size hl4
          have e5 := Later.cell hl4 d5; have e6 := Later.cell hl4 d6; have e7 := Later.frozen hl4 (lt_of_cell d5) d7; have e8 := Later.frozen hl4 (lt_of_cell d6) d8
          clear hl4 d5 d6 d7 d8 hw4
          refine (rmake_any (-(smp fuelB (-m) k (-n) d).1) (smp fuelB (-m) k (-n) d).2 _ (by omega) (by omega) (by omega) (by omega)).mono ?_
          rintro e w5 ⟨rfl, hl5⟩
          have hB5 := Later.below hl5 hB4 (by omega)
          have f5 := Later.cell hl5 e5; have f6 := Later.cell hl5 e6; have f7 := Later.frozen hl5 (lt_of_cell e5) e7; have f8 := Later.frozen hl5 (lt_of_cell e6) e8
          clear hl5 e5 e6 e7 e8
          go_wp2
          refine bodyPost_ret (v := .tuple #[.agg #[.int .i64 (mkN (-(smp fuelB (-m) k (-n) d).1) (smp fuelB (-m) k (-n) d).2), .int .i64 (mkD (-(smp fuelB (-m) k (-n) d).1) (smp fuelB (-m) k (-n) d).2)], .int .i64 (mkE (-(smp fuelB (-m) k (-n) d).1) (smp fuelB (-m) k (-n) d).2)]) ?_ rfl ⟨by rw [H.out.1, H.out.2.1, H.out.2.2], Kin.Below.setC (Kin.Below.setC hB5 (by omega)) (by omega)⟩
          simp (maxDischargeDepth := 8) [results, Try.results18, go_sem, f5, f6]
      · have H := Lib.hid (bt_pos hb hlt hn0)
        have HI : Hid (Sin n d m k) := Lib.hid ⟨by omega, by omega, by omega, hlt, by omega, by omega, by omega, by omega⟩
        clear hb hlt
        obtain ⟨r1, r2, r3, r4⟩ := smp_bd fuelB HI.out (fuel_ok v2 u2)
        go_enter Try.func18, Try.ntmps18
        go_wp2_with fail
        rw [HW.out]
        refine (both_any n d m k _).mono ?_
        rintro e w1 ⟨rfl, hl1⟩
        rw [HB.out]
        have hB1 := Later.below hl1 hB0 (by rw [HS.out]; omega)
        have hs1 := Later.size hl1
        rw [HS.out] at hs1
        have a1 := Later.cell hl1 b1; have a2 := Later.cell hl1 b2; have a3 := Later.cell hl1 b3; have a4 := Later.cell hl1 b4
        have a5 := Later.cell hl1 b5; have a6 := Later.cell hl1 b6; have a7 := Later.frozen hl1 (lt_of_cell b5) b7; have a8 := Later.frozen hl1 (lt_of_cell b6) b8
        clear hl1 b1 b2 b3 b4 b5 b6 b7 b8
        go_wp2_with fail
        refine (less_any n d m k _ (by omega) (by omega) (by omega) (by omega) (by omega) (by omega) (by omega) (by omega)).mono ?_
        rintro e w2 ⟨rfl, hl2⟩
        rw [HL.out]
        have hB2 := Later.below hl2 hB1 (by omega)
        have hs2 := Later.size hl2
        have c1 := Later.cell hl2 a1; have c2 := Later.cell hl2 a2; have c3 := Later.cell hl2 a3; have c4 := Later.cell hl2 a4
        have c5 := Later.cell hl2 a5; have c6 := Later.cell hl2 a6; have c7 := Later.frozen hl2 (lt_of_cell a5) a7; have c8 := Later.frozen hl2 (lt_of_cell a6) a8
        clear hl2 a1 a2 a3 a4 a5 a6 a7 a8
        go_wp2_with fail
        refine (rsimp_any fuelB n d m k w2 HI.out (fuel_ok v2 u2)).mono ?_
        rintro e w3 ⟨rfl, hl3⟩
        have hB3 := Later.below hl3 hB2 (by omega)
        have hs3 := Later.size hl3
        have hs4 : w.heap.size + 1 + 1 < w3.heap.size := by omega
        have d5 := Later.cell hl3 c5; have d6 := Later.cell hl3 c6; have d7 := Later.frozen hl3 (lt_of_cell c5) c7; have d8 := Later.frozen hl3 (lt_of_cell c6) c8
        clear hl3 c1 c2 c3 c4 c5 c6 c7 c8
        go_wp2_with fail
        obtain ⟨w4, hw4⟩ : ∃ w4, w3.alloc (Obj.cells #[Value.int IntKind.i64 (smp fuelB n d m k).1, Value.int IntKind.i64 (smp fuelB n d m k).2] 53) = w4 := ⟨_, rfl⟩
        rw [hw4]
        have hl4 : Later w3 w4 := by rw [← hw4]; exact (Below.refl _ _).alloc (Nat.le_refl _) _
        have hB4 := Later.below hl4 hB3 (by omega)
        have hs5 := Later.size hl4
        have e5 := Later.cell hl4 d5; have e6 := Later.cell hl4 d6; have e7 := Later.frozen hl4 (lt_of_cell d5) d7; have e8 := Later.frozen hl4 (lt_of_cell d6) d8
        clear hl4 d5 d6 d7 d8 hw4
        refine (rmake_any (smp fuelB n d m k).1 (smp fuelB n d m k).2 _ (by omega) (by omega) (by omega) (by omega)).mono ?_
        rintro e w5 ⟨rfl, hl5⟩
        have hB5 := Later.below hl5 hB4 (by omega)
        have f5 := Later.cell hl5 e5; have f6 := Later.cell hl5 e6; have f7 := Later.frozen hl5 (lt_of_cell e5) e7; have f8 := Later.frozen hl5 (lt_of_cell e6) e8
        clear hl5 e5 e6 e7 e8
        go_wp2
        refine bodyPost_ret (v := .tuple #[.agg #[.int .i64 (mkN (smp fuelB n d m k).1 (smp fuelB n d m k).2), .int .i64 (mkD (smp fuelB n d m k).1 (smp fuelB n d m k).2)], .int .i64 (mkE (smp fuelB n d m k).1 (smp fuelB n d m k).2)]) ?_ rfl ⟨by rw [H.out.1, H.out.2.1, H.out.2.2], Kin.Below.setC (Kin.Below.setC hB5 (by omega)) (by omega)⟩
        simp (maxDischargeDepth := 8) [results, Try.results18, go_sem, f5, f6]
    · have HL : Hid (decide (n * k < m * d) = false) := Lib.hid (by simp; omega)
      have H := Lib.hid (bt_arg hb hlt)
      clear hb hlt
      go_enter Try.func18, Try.ntmps18
      go_wp2_with fail
      rw [HW.out]
      refine (both_any n d m k _).mono ?_
      rintro e w1 ⟨rfl, hl1⟩
      rw [HB.out]
      have hB1 := Later.below hl1 hB0 (by rw [HS.out]; omega)
      have hs1 := Later.size hl1
      rw [HS.out] at hs1
      have a1 := Later.cell hl1 b1; have a2 := Later.cell hl1 b2; have a3 := Later.cell hl1 b3; have a4 := Later.cell hl1 b4
      have a5 := Later.cell hl1 b5; have a6 := Later.cell hl1 b6; have a7 := Later.frozen hl1 (lt_of_cell b5) b7; have a8 := Later.frozen hl1 (lt_of_cell b6) b8
      clear hl1 b1 b2 b3 b4 b5 b6 b7 b8
      go_wp2_with fail
      refine (less_any n d m k _ (by omega) (by omega) (by omega) (by omega) (by omega) (by omega) (by omega) (by omega)).mono ?_
      rintro e w2 ⟨rfl, hl2⟩
      rw [HL.out]
      have hB2 := Later.below hl2 hB1 (by omega)
      have hs2 := Later.size hl2
      have c1 := Later.cell hl2 a1; have c2 := Later.cell hl2 a2; have c3 := Later.cell hl2 a3; have c4 := Later.cell hl2 a4
      have c5 := Later.cell hl2 a5; have c6 := Later.cell hl2 a6; have c7 := Later.frozen hl2 (lt_of_cell a5) a7; have c8 := Later.frozen hl2 (lt_of_cell a6) a8
      clear hl2 a1 a2 a3 a4 a5 a6 a7 a8
      go_wp2
      refine bodyPost_ret (v := .tuple #[.agg #[.int .i64 0, .int .i64 0], .int .i64 1]) ?_ rfl ⟨by rw [H.out.1, H.out.2.1, H.out.2.2], Kin.Below.setC (Kin.Below.setC hB2 (by omega)) (by omega)⟩
      simp (maxDischargeDepth := 8) [results, Try.results18, go_sem, c5, c6]
end R12
end Go.Proofs
