/- The operations of ratio's reference walked. -/
import Derived.Test.YtakahkhofjpjoaaOp
namespace Go.Proofs
open Go.RowKit Go.Shelf Go.Kin
namespace R12
set_option maxHeartbeats 1000000 in
theorem rop_Add (n d m k : Int) (w : World) :
    Calls Try.prog 27 #[.agg #[.int .i64 n, .int .i64 d], .agg #[.int .i64 m, .int .i64 k]] w fun e w' => e = .returned (.tuple #[.agg #[.int .i64 (resN (okB n d && okB m k) (n * k + m * d) (d * k)), .int .i64 (resD (okB n d && okB m k) (n * k + m * d) (d * k))], .int .i64 (resE (okB n d && okB m k) (n * k + m * d) (d * k))]) ∧ Below w.heap.size w w' := by
  obtain ⟨W0, hW0⟩ : ∃ W0, (((w.alloc (Obj.cells #[Value.int IntKind.i64 n, Value.int IntKind.i64 d] 23)).alloc (Obj.cells #[Value.int IntKind.i64 m, Value.int IntKind.i64 k] 23)).alloc (Obj.cells #[Value.int IntKind.i64 0, Value.int IntKind.i64 0] 23)) = W0 := ⟨_, rfl⟩
  have hB0 : Below w.heap.size w W0 := by rw [← hW0]; exact Kin.Below.allocC (Kin.Below.allocC (Kin.Below.allocC (Below.refl w.heap.size w) (Nat.le_refl _)) (by simp)) (by simp; omega)
  have hs0 : W0.heap.size = w.heap.size + 3 := by rw [← hW0]; simp
  have b1 : W0.cell? ⟨w.heap.size, 0, none⟩ = some (.int .i64 n) := by rw [← hW0]; simp [go_sem]
  have b2 : W0.cell? ⟨w.heap.size, 1, none⟩ = some (.int .i64 d) := by rw [← hW0]; simp [go_sem]
  have b3 : W0.cell? ⟨w.heap.size + 1, 0, none⟩ = some (.int .i64 m) := by rw [← hW0]; simp [go_sem]
  have b4 : W0.cell? ⟨w.heap.size + 1, 1, none⟩ = some (.int .i64 k) := by rw [← hW0]; simp [go_sem]
  have b5 : W0.cell? ⟨w.heap.size + 1 + 1, 0, none⟩ = some (.int .i64 0) := by rw [← hW0]; simp [go_sem]
  have b6 : W0.cell? ⟨w.heap.size + 1 + 1, 1, none⟩ = some (.int .i64 0) := by rw [← hW0]; simp [go_sem]
  have b7 : W0.frozen? ⟨w.heap.size + 1 + 1, 0, none⟩ = false := by rw [← hW0]; simp [go_sem]
  have b8 : W0.frozen? ⟨w.heap.size + 1 + 1, 1, none⟩ = false := by rw [← hW0]; simp [go_sem]
  have HW := Lib.hid hW0; clear hW0
  have HS := Lib.hid hs0; clear hs0
  cases hb : (okB n d && okB m k)
  · have H : Hid (resN false (n * k + m * d) (d * k) = 0 ∧ resD false (n * k + m * d) (d * k) = 0 ∧ resE false (n * k + m * d) (d * k) = 120) := Lib.hid (by simp [resN, resD, resE])
    have HB := Lib.hid hb; clear hb
    go_enter Try.func27, Try.ntmps27
    go_wp2_with fail
    rw [HW.out]
    refine (both_any n d m k _).mono ?_
    rintro e w1 ⟨rfl, hl1⟩
    rw [HB.out]
    have hB1 := Later.below hl1 hB0 (by rw [HS.out]; omega)
    have hs1 := Later.size hl1
    rw [HS.out] at hs1
    have a1 := Later.cell hl1 b1; have a2 := Later.cell hl1 b2; have a3 := Later.cell hl1 b3; have a4 := Later.cell hl1 b4
    have a5 := Later.cell hl1 b5; have a6 := Later.cell hl1 b6; have a7 := Later.frozen hl1 (lt_of_cell b5) b7; have a8 := Later.frozen hl1 (lt_of_cell b6) b8
    clear hl1 b1 b2 b3 b4 b5 b6 b7 b8
    go_wp2
    refine bodyPost_ret (v := .tuple #[.agg #[.int .i64 0, .int .i64 0], .int .i64 120]) ?_ rfl ⟨by rw [H.out.1, H.out.2.1, H.out.2.2], Kin.Below.setC (Kin.Below.setC hB1 (by omega)) (by omega)⟩
    simp (maxDischargeDepth := 8) [results, Try.results27, go_sem, a5, a6]
  · have HB := Lib.hid hb
    rw [Bool.and_eq_true] at hb
    obtain ⟨v1, v2, v3, v4, -⟩ := okB_iff.1 hb.1; obtain ⟨u1, u2, u3, u4, -⟩ := okB_iff.1 hb.2
    obtain ⟨p1, p2⟩ := mul30 v3 v4 (by omega : -1073741824 ≤ k) u2
    obtain ⟨p3, p4⟩ := mul30 u3 u4 (by omega : -1073741824 ≤ d) v2
    obtain ⟨p5, p6⟩ := mul30 (by omega : -1073741824 ≤ d) v2 (by omega : -1073741824 ≤ k) u2
    obtain ⟨p7, p8⟩ := mul30 v3 v4 u3 u4
    obtain ⟨p9, p10⟩ := mul30 (by omega : -1073741824 ≤ d) v2 u3 u4
    clear hb
    have H : Hid (resN true (n * k + m * d) (d * k) = mkN (n * k + m * d) (d * k) ∧ resD true (n * k + m * d) (d * k) = mkD (n * k + m * d) (d * k) ∧ resE true (n * k + m * d) (d * k) = mkE (n * k + m * d) (d * k)) := Lib.hid (by simp [resN, resD, resE])
    go_enter Try.func27, Try.ntmps27
    go_wp2_with fail
    rw [HW.out]
    refine (both_any n d m k _).mono ?_
    rintro e w1 ⟨rfl, hl1⟩
    rw [HB.out]
    have hB1 := Later.below hl1 hB0 (by rw [HS.out]; omega)
    have hs1 := Later.size hl1
    rw [HS.out] at hs1
    have a1 := Later.cell hl1 b1; have a2 := Later.cell hl1 b2; have a3 := Later.cell hl1 b3; have a4 := Later.cell hl1 b4
    have a5 := Later.cell hl1 b5; have a6 := Later.cell hl1 b6; have a7 := Later.frozen hl1 (lt_of_cell b5) b7; have a8 := Later.frozen hl1 (lt_of_cell b6) b8
    clear hl1 b1 b2 b3 b4 b5 b6 b7 b8
    go_wp2_with fail
    refine (rmake_any (n * k + m * d) (d * k) _ (by omega) (by omega) (by omega) (by omega)).mono ?_
    rintro e w4 ⟨rfl, hl4⟩
    have hB4 := Later.below hl4 hB1 (by omega)
    have g5 := Later.cell hl4 a5; have g6 := Later.cell hl4 a6; have g7 := Later.frozen hl4 (lt_of_cell a5) a7; have g8 := Later.frozen hl4 (lt_of_cell a6) a8
    clear hl4 a1 a2 a3 a4 a5 a6 a7 a8
    go_wp2
    refine bodyPost_ret (v := .tuple #[.agg #[.int .i64 (mkN (n * k + m * d) (d * k)), .int .i64 (mkD (n * k + m * d) (d * k))], .int .i64 (mkE (n * k + m * d) (d * k))]) ?_ rfl ⟨by rw [H.out.1, H.out.2.1, H.out.2.2], Kin.Below.setC (Kin.Below.setC hB4 (by omega)) (by omega)⟩
    simp (maxDischargeDepth := 8) [results, Try.results27, go_sem, g5, g6]
set_option maxHeartbeats 1000000 in
theorem rop_Mul (n d m k : Int) (w : World) :
    Calls Try.prog 30 #[.agg #[.int .i64 n, .int .i64 d], .agg #[.int .i64 m, .int .i64 k]] w fun e w' => e = .returned (.tuple #[.agg #[.int .i64 (resN (okB n d && okB m k) (n * m) (d * k)), .int .i64 (resD (okB n d && okB m k) (n * m) (d * k))], .int .i64 (resE (okB n d && okB m k) (n * m) (d * k))]) ∧ Below w.heap.size w w' := by
  obtain ⟨W0, hW0⟩ : ∃ W0, (((w.alloc (Obj.cells #[Value.int IntKind.i64 n, Value.int IntKind.i64 d] 23)).alloc (Obj.cells #[Value.int IntKind.i64 m, Value.int IntKind.i64 k] 23)).alloc (Obj.cells #[Value.int IntKind.i64 0, Value.int IntKind.i64 0] 23)) = W0 := ⟨_, rfl⟩
  have hB0 : Below w.heap.size w W0 := by rw [← hW0]; exact Kin.Below.allocC (Kin.Below.allocC (Kin.Below.allocC (Below.refl w.heap.size w) (Nat.le_refl _)) (by simp)) (by simp; omega)
  have hs0 : W0.heap.size = w.heap.size + 3 := by rw [← hW0]; simp
  have b1 : W0.cell? ⟨w.heap.size, 0, none⟩ = some (.int .i64 n) := by rw [← hW0]; simp [go_sem]
  have b2 : W0.cell? ⟨w.heap.size, 1, none⟩ = some (.int .i64 d) := by rw [← hW0]; simp [go_sem]
  have b3 : W0.cell? ⟨w.heap.size + 1, 0, none⟩ = some (.int .i64 m) := by rw [← hW0]; simp [go_sem]
  have b4 : W0.cell? ⟨w.heap.size + 1, 1, none⟩ = some (.int .i64 k) := by rw [← hW0]; simp [go_sem]
  have b5 : W0.cell? ⟨w.heap.size + 1 + 1, 0, none⟩ = some (.int .i64 0) := by rw [← hW0]; simp [go_sem]
  have b6 : W0.cell? ⟨w.heap.size + 1 + 1, 1, none⟩ = some (.int .i64 0) := by rw [← hW0]; simp [go_sem]
  have b7 : W0.frozen? ⟨w.heap.size + 1 + 1, 0, none⟩ = false := by rw [← hW0]; simp [go_sem]
  have b8 : W0.frozen? ⟨w.heap.size + 1 + 1, 1, none⟩ = false := by rw [← hW0]; simp [go_sem]
  have HW := Lib.hid hW0; clear hW0
  have HS := Lib.hid hs0; clear hs0
  cases hb : (okB n d && okB m k)
  · have H : Hid (resN false (n * m) (d * k) = 0 ∧ resD false (n * m) (d * k) = 0 ∧ resE false (n * m) (d * k) = 120) := Lib.hid (by simp [resN, resD, resE])
    have HB := Lib.hid hb; clear hb
    go_enter Try.func30, Try.ntmps30
    go_wp2_with fail
    rw [HW.out]
    refine (both_any n d m k _).mono ?_
    rintro e w1 ⟨rfl, hl1⟩
    rw [HB.out]
    have hB1 := Later.below hl1 hB0 (by rw [HS.out]; omega)
    have hs1 := Later.size hl1
    rw [HS.out] at hs1
    have a1 := Later.cell hl1 b1; have a2 := Later.cell hl1 b2; have a3 := Later.cell hl1 b3; have a4 := Later.cell hl1 b4
    have a5 := Later.cell hl1 b5; have a6 := Later.cell hl1 b6; have a7 := Later.frozen hl1 (lt_of_cell b5) b7; have a8 := Later.frozen hl1 (lt_of_cell b6) b8
    clear hl1 b1 b2 b3 b4 b5 b6 b7 b8
    go_wp2
    refine bodyPost_ret (v := .tuple #[.agg #[.int .i64 0, .int .i64 0], .int .i64 120]) ?_ rfl ⟨by rw [H.out.1, H.out.2.1, H.out.2.2], Kin.Below.setC (Kin.Below.setC hB1 (by omega)) (by omega)⟩
    simp (maxDischargeDepth := 8) [results, Try.results30, go_sem, a5, a6]
  · have HB := Lib.hid hb
    rw [Bool.and_eq_true] at hb
    obtain ⟨v1, v2, v3, v4, -⟩ := okB_iff.1 hb.1; obtain ⟨u1, u2, u3, u4, -⟩ := okB_iff.1 hb.2
    obtain ⟨p1, p2⟩ := mul30 v3 v4 (by omega : -1073741824 ≤ k) u2
    obtain ⟨p3, p4⟩ := mul30 u3 u4 (by omega : -1073741824 ≤ d) v2
    obtain ⟨p5, p6⟩ := mul30 (by omega : -1073741824 ≤ d) v2 (by omega : -1073741824 ≤ k) u2
    obtain ⟨p7, p8⟩ := mul30 v3 v4 u3 u4
    obtain ⟨p9, p10⟩ := mul30 (by omega : -1073741824 ≤ d) v2 u3 u4
    clear hb
    have H : Hid (resN true (n * m) (d * k) = mkN (n * m) (d * k) ∧ resD true (n * m) (d * k) = mkD (n * m) (d * k) ∧ resE true (n * m) (d * k) = mkE (n * m) (d * k)) := Lib.hid (by simp [resN, resD, resE])
    go_enter Try.func30, Try.ntmps30
    go_wp2_with fail
    rw [HW.out]
    refine (both_any n d m k _).mono ?_
    rintro e w1 ⟨rfl, hl1⟩
    rw [HB.out]
    have hB1 := Later.below hl1 hB0 (by rw [HS.out]; omega)
    have hs1 := Later.size hl1
    rw [HS.out] at hs1
    have a1 := Later.cell hl1 b1; have a2 := Later.cell hl1 b2; have a3 := Later.cell hl1 b3; have a4 := Later.cell hl1 b4
    have a5 := Later.cell hl1 b5; have a6 := Later.cell hl1 b6; have a7 := Later.frozen hl1 (lt_of_cell b5) b7; have a8 := Later.frozen hl1 (lt_of_cell b6) b8
    clear hl1 b1 b2 b3 b4 b5 b6 b7 b8
    go_wp2_with fail
    refine (rmake_any (n * m) (d * k) _ (by omega) (by omega) (by omega) (by omega)).mono ?_
    rintro e w4 ⟨rfl, hl4⟩
    have hB4 := Later.below hl4 hB1 (by omega)
    have g5 := Later.cell hl4 a5; have g6 := Later.cell hl4 a6; have g7 := Later.frozen hl4 (lt_of_cell a5) a7; have g8 := Later.frozen hl4 (lt_of_cell a6) a8
    clear hl4 a1 a2 a3 a4 a5 a6 a7 a8
    go_wp2
    refine bodyPost_ret (v := .tuple #[.agg #[.int .i64 (mkN (n * m) (d * k)), .int .i64 (mkD (n * m) (d * k))], .int .i64 (mkE (n * m) (d * k))]) ?_ rfl ⟨by rw [H.out.1, H.out.2.1, H.out.2.2], Kin.Below.setC (Kin.Below.setC hB4 (by omega)) (by omega)⟩
    simp (maxDischargeDepth := 8) [results, Try.results30, go_sem, g5, g6]
set_option maxHeartbeats 1000000 in
theorem rop_Sub (n d m k : Int) (w : World) :
    Calls Try.prog 29 #[.agg #[.int .i64 n, .int .i64 d], .agg #[.int .i64 m, .int .i64 k]] w fun e w' => e = .returned (.tuple #[.agg #[.int .i64 (resN (okB n d && okB m k) (n * k - m * d) (d * k)), .int .i64 (resD (okB n d && okB m k) (n * k - m * d) (d * k))], .int .i64 (resE (okB n d && okB m k) (n * k - m * d) (d * k))]) ∧ Below w.heap.size w w' := by
  obtain ⟨W0, hW0⟩ : ∃ W0, (((w.alloc (Obj.cells #[Value.int IntKind.i64 n, Value.int IntKind.i64 d] 23)).alloc (Obj.cells #[Value.int IntKind.i64 m, Value.int IntKind.i64 k] 23)).alloc (Obj.cells #[Value.int IntKind.i64 0, Value.int IntKind.i64 0] 23)) = W0 := ⟨_, rfl⟩
  have hB0 : Below w.heap.size w W0 := by rw [← hW0]; exact Kin.Below.allocC (Kin.Below.allocC (Kin.Below.allocC (Below.refl w.heap.size w) (Nat.le_refl _)) (by simp)) (by simp; omega)
  have hs0 : W0.heap.size = w.heap.size + 3 := by rw [← hW0]; simp
  have b1 : W0.cell? ⟨w.heap.size, 0, none⟩ = some (.int .i64 n) := by rw [← hW0]; simp [go_sem]
  have b2 : W0.cell? ⟨w.heap.size, 1, none⟩ = some (.int .i64 d) := by rw [← hW0]; simp [go_sem]
  have b3 : W0.cell? ⟨w.heap.size + 1, 0, none⟩ = some (.int .i64 m) := by rw [← hW0]; simp [go_sem]
  have b4 : W0.cell? ⟨w.heap.size + 1, 1, none⟩ = some (.int .i64 k) := by rw [← hW0]; simp [go_sem]
  have b5 : W0.cell? ⟨w.heap.size + 1 + 1, 0, none⟩ = some (.int .i64 0) := by rw [← hW0]; simp [go_sem]
  have b6 : W0.cell? ⟨w.heap.size + 1 + 1, 1, none⟩ = some (.int .i64 0) := by rw [← hW0]; simp [go_sem]
  have b7 : W0.frozen? ⟨w.heap.size + 1 + 1, 0, none⟩ = false := by rw [← hW0]; simp [go_sem]
  have b8 : W0.frozen? ⟨w.heap.size + 1 + 1, 1, none⟩ = false := by rw [← hW0]; simp [go_sem]
  have HW := Lib.hid hW0; clear hW0
  have HS := Lib.hid hs0; clear hs0
  cases hb : (okB n d && okB m k)
  · have H : Hid (resN false (n * k - m * d) (d * k) = 0 ∧ resD false (n * k - m * d) (d * k) = 0 ∧ resE false (n * k - m * d) (d * k) = 120) := Lib.hid (by simp [resN, resD, resE])
    have HB := Lib.hid hb; clear hb
    go_enter Try.func29, Try.ntmps29
    go_wp2_with fail
    rw [HW.out]
    refine (both_any n d m k _).mono ?_
    rintro e w1 ⟨rfl, hl1⟩
    rw [HB.out]
    have hB1 := Later.below hl1 hB0 (by rw [HS.out]; omega)
    have hs1 := Later.size hl1
    rw [HS.out] at hs1
    have a1 := Later.cell hl1 b1; have a2 := Later.cell hl1 b2; have a3 := Later.cell hl1 b3; have a4 := Later.cell hl1 b4
    have a5 := Later.cell hl1 b5; have a6 := Later.cell hl1 b6; have a7 := Later.frozen hl1 (lt_of_cell b5) b7; have a8 := Later.frozen hl1 (lt_of_cell b6) b8
    clear hl1 b1 b2 b3 b4 b5 b6 b7 b8
    go_wp2
    refine bodyPost_ret (v := .tuple #[.agg #[.int .i64 0, .int .i64 0], .int .i64 120]) ?_ rfl ⟨by rw [H.out.1, H.out.2.1, H.out.2.2], Kin.Below.setC (Kin.Below.setC hB1 (by omega)) (by omega)⟩
    simp (maxDischargeDepth := 8) [results, Try.results29, go_sem, a5, a6]
  · have HB := Lib.hid hb
    rw [Bool.and_eq_true] at hb
    obtain ⟨v1, v2, v3, v4, -⟩ := okB_iff.1 hb.1; obtain ⟨u1, u2, u3, u4, -⟩ := okB_iff.1 hb.2
    obtain ⟨p1, p2⟩ := mul30 v3 v4 (by omega : -1073741824 ≤ k) u2
    obtain ⟨p3, p4⟩ := mul30 u3 u4 (by omega : -1073741824 ≤ d) v2
    obtain ⟨p5, p6⟩ := mul30 (by omega : -1073741824 ≤ d) v2 (by omega : -1073741824 ≤ k) u2
    obtain ⟨p7, p8⟩ := mul30 v3 v4 u3 u4
    obtain ⟨p9, p10⟩ := mul30 (by omega : -1073741824 ≤ d) v2 u3 u4
    clear hb
    have H : Hid (resN true (n * k - m * d) (d * k) = mkN (n * k - m * d) (d * k) ∧ resD true (n * k - m * d) (d * k) = mkD (n * k - m * d) (d * k) ∧ resE true (n * k - m * d) (d * k) = mkE (n * k - m * d) (d * k)) := Lib.hid (by simp [resN, resD, resE])
    go_enter Try.func29, Try.ntmps29
    go_wp2_with fail
    rw [HW.out]
    refine (both_any n d m k _).mono ?_
    rintro e w1 ⟨rfl, hl1⟩
    rw [HB.out]
    have hB1 := Later.below hl1 hB0 (by rw [HS.out]; omega)
    have hs1 := Later.size hl1
    rw [HS.out] at hs1
    have a1 := Later.cell hl1 b1; have a2 := Later.cell hl1 b2; have a3 := Later.cell hl1 b3; have a4 := Later.cell hl1 b4
    have a5 := Later.cell hl1 b5; have a6 := Later.cell hl1 b6; have a7 := Later.frozen hl1 (lt_of_cell b5) b7; have a8 := Later.frozen hl1 (lt_of_cell b6) b8
    clear hl1 b1 b2 b3 b4 b5 b6 b7 b8
    go_wp2_with fail
    refine (rmake_any (n * k - m * d) (d * k) _ (by omega) (by omega) (by omega) (by omega)).mono ?_
    rintro e w4 ⟨rfl, hl4⟩
    have hB4 := Later.below hl4 hB1 (by omega)
    have g5 := Later.cell hl4 a5; have g6 := Later.cell hl4 a6; have g7 := Later.frozen hl4 (lt_of_cell a5) a7; have g8 := Later.frozen hl4 (lt_of_cell a6) a8
    clear hl4 a1 a2 a3 a4 a5 a6 a7 a8
    go_wp2
    refine bodyPost_ret (v := .tuple #[.agg #[.int .i64 (mkN (n * k - m * d) (d * k)), .int .i64 (mkD (n * k - m * d) (d * k))], .int .i64 (mkE (n * k - m * d) (d * k))]) ?_ rfl ⟨by rw [H.out.1, H.out.2.1, H.out.2.2], Kin.Below.setC (Kin.Below.setC hB4 (by omega)) (by omega)⟩
    simp (maxDischargeDepth := 8) [results, Try.results29, go_sem, g5, g6]
set_option maxHeartbeats 1000000 in
theorem rop_Div (n d m k : Int) (w : World) :
    Calls Try.prog 32 #[.agg #[.int .i64 n, .int .i64 d], .agg #[.int .i64 m, .int .i64 k]] w fun e w' => e = .returned (.tuple #[.agg #[.int .i64 (resN (okB n d && okB m k) (n * k) (d * m)), .int .i64 (resD (okB n d && okB m k) (n * k) (d * m))], .int .i64 (resE (okB n d && okB m k) (n * k) (d * m))]) ∧ Below w.heap.size w w' := by
  obtain ⟨W0, hW0⟩ : ∃ W0, (((w.alloc (Obj.cells #[Value.int IntKind.i64 n, Value.int IntKind.i64 d] 23)).alloc (Obj.cells #[Value.int IntKind.i64 m, Value.int IntKind.i64 k] 23)).alloc (Obj.cells #[Value.int IntKind.i64 0, Value.int IntKind.i64 0] 23)) = W0 := ⟨_, rfl⟩
  have hB0 : Below w.heap.size w W0 := by rw [← hW0]; exact Kin.Below.allocC (Kin.Below.allocC (Kin.Below.allocC (Below.refl w.heap.size w) (Nat.le_refl _)) (by simp)) (by simp; omega)
  have hs0 : W0.heap.size = w.heap.size + 3 := by rw [← hW0]; simp
  have b1 : W0.cell? ⟨w.heap.size, 0, none⟩ = some (.int .i64 n) := by rw [← hW0]; simp [go_sem]
  have b2 : W0.cell? ⟨w.heap.size, 1, none⟩ = some (.int .i64 d) := by rw [← hW0]; simp [go_sem]
  have b3 : W0.cell? ⟨w.heap.size + 1, 0, none⟩ = some (.int .i64 m) := by rw [← hW0]; simp [go_sem]
  have b4 : W0.cell? ⟨w.heap.size + 1, 1, none⟩ = some (.int .i64 k) := by rw [← hW0]; simp [go_sem]
  have b5 : W0.cell? ⟨w.heap.size + 1 + 1, 0, none⟩ = some (.int .i64 0) := by rw [← hW0]; simp [go_sem]
  have b6 : W0.cell? ⟨w.heap.size + 1 + 1, 1, none⟩ = some (.int .i64 0) := by rw [← hW0]; simp [go_sem]
  have b7 : W0.frozen? ⟨w.heap.size + 1 + 1, 0, none⟩ = false := by rw [← hW0]; simp [go_sem]
  have b8 : W0.frozen? ⟨w.heap.size + 1 + 1, 1, none⟩ = false := by rw [← hW0]; simp [go_sem]
  have HW := Lib.hid hW0; clear hW0
  have HS := Lib.hid hs0; clear hs0
  cases hb : (okB n d && okB m k)
  · have H : Hid (resN false (n * k) (d * m) = 0 ∧ resD false (n * k) (d * m) = 0 ∧ resE false (n * k) (d * m) = 120) := Lib.hid (by simp [resN, resD, resE])
    have HB := Lib.hid hb; clear hb
    go_enter Try.func32, Try.ntmps32
    go_wp2_with fail
    rw [HW.out]
    refine (both_any n d m k _).mono ?_
    rintro e w1 ⟨rfl, hl1⟩
    rw [HB.out]
    have hB1 := Later.below hl1 hB0 (by rw [HS.out]; omega)
    have hs1 := Later.size hl1
    rw [HS.out] at hs1
    have a1 := Later.cell hl1 b1; have a2 := Later.cell hl1 b2; have a3 := Later.cell hl1 b3; have a4 := Later.cell hl1 b4
    have a5 := Later.cell hl1 b5; have a6 := Later.cell hl1 b6; have a7 := Later.frozen hl1 (lt_of_cell b5) b7; have a8 := Later.frozen hl1 (lt_of_cell b6) b8
    clear hl1 b1 b2 b3 b4 b5 b6 b7 b8
    go_wp2
    refine bodyPost_ret (v := .tuple #[.agg #[.int .i64 0, .int .i64 0], .int .i64 120]) ?_ rfl ⟨by rw [H.out.1, H.out.2.1, H.out.2.2], Kin.Below.setC (Kin.Below.setC hB1 (by omega)) (by omega)⟩
    simp (maxDischargeDepth := 8) [results, Try.results32, go_sem, a5, a6]
  · have HB := Lib.hid hb
    rw [Bool.and_eq_true] at hb
    obtain ⟨v1, v2, v3, v4, -⟩ := okB_iff.1 hb.1; obtain ⟨u1, u2, u3, u4, -⟩ := okB_iff.1 hb.2
    obtain ⟨p1, p2⟩ := mul30 v3 v4 (by omega : -1073741824 ≤ k) u2
    obtain ⟨p3, p4⟩ := mul30 u3 u4 (by omega : -1073741824 ≤ d) v2
    obtain ⟨p5, p6⟩ := mul30 (by omega : -1073741824 ≤ d) v2 (by omega : -1073741824 ≤ k) u2
    obtain ⟨p7, p8⟩ := mul30 v3 v4 u3 u4
    obtain ⟨p9, p10⟩ := mul30 (by omega : -1073741824 ≤ d) v2 u3 u4
    clear hb
    by_cases hm0 : m = 0
    · have hm1 : (m == 0) = true := by simp [hm0]
      have H : Hid (resN true (n * k) (d * m) = 0 ∧ resD true (n * k) (d * m) = 0 ∧ resE true (n * k) (d * m) = 120) := Lib.hid (by simp [resN, resD, resE, mkN, mkD, mkE, hm0])
      clear hm0
      go_enter Try.func32, Try.ntmps32
      go_wp2_with fail
      rw [HW.out]
      refine (both_any n d m k _).mono ?_
      rintro e w1 ⟨rfl, hl1⟩
      rw [HB.out]
      have hB1 := Later.below hl1 hB0 (by rw [HS.out]; omega)
      have hs1 := Later.size hl1
      rw [HS.out] at hs1
      have a1 := Later.cell hl1 b1; have a2 := Later.cell hl1 b2; have a3 := Later.cell hl1 b3; have a4 := Later.cell hl1 b4
      have a5 := Later.cell hl1 b5; have a6 := Later.cell hl1 b6; have a7 := Later.frozen hl1 (lt_of_cell b5) b7; have a8 := Later.frozen hl1 (lt_of_cell b6) b8
      clear hl1 b1 b2 b3 b4 b5 b6 b7 b8
      go_wp2
      refine bodyPost_ret (v := .tuple #[.agg #[.int .i64 0, .int .i64 0], .int .i64 120]) ?_ rfl ⟨by rw [H.out.1, H.out.2.1, H.out.2.2], Kin.Below.setC (Kin.Below.setC hB1 (by omega)) (by omega)⟩
      simp (maxDischargeDepth := 8) [results, Try.results32, go_sem, a5, a6]
    · have hm1 : (m == 0) = false := by simp [hm0]
      have H : Hid (resN true (n * k) (d * m) = mkN (n * k) (d * m) ∧ resD true (n * k) (d * m) = mkD (n * k) (d * m) ∧ resE true (n * k) (d * m) = mkE (n * k) (d * m)) := Lib.hid (by simp [resN, resD, resE])
      clear hm0
      go_enter Try.func32, Try.ntmps32
      go_wp2_with fail
      rw [HW.out]
      refine (both_any n d m k _).mono ?_
      rintro e w1 ⟨rfl, hl1⟩
      rw [HB.out]
      have hB1 := Later.below hl1 hB0 (by rw [HS.out]; omega)
      have hs1 := Later.size hl1
      rw [HS.out] at hs1
      have a1 := Later.cell hl1 b1; have a2 := Later.cell hl1 b2; have a3 := Later.cell hl1 b3; have a4 := Later.cell hl1 b4
      have a5 := Later.cell hl1 b5; have a6 := Later.cell hl1 b6; have a7 := Later.frozen hl1 (lt_of_cell b5) b7; have a8 := Later.frozen hl1 (lt_of_cell b6) b8
      clear hl1 b1 b2 b3 b4 b5 b6 b7 b8
      go_wp2_with fail
      refine (rmake_any (n * k) (d * m) _ (by omega) (by omega) (by omega) (by omega)).mono ?_
      rintro e w4 ⟨rfl, hl4⟩
      have hB4 := Later.below hl4 hB1 (by omega)
      have g5 := Later.cell hl4 a5; have g6 := Later.cell hl4 a6; have g7 := Later.frozen hl4 (lt_of_cell a5) a7; have g8 := Later.frozen hl4 (lt_of_cell a6) a8
      clear hl4 a1 a2 a3 a4 a5 a6 a7 a8
      go_wp2
      refine bodyPost_ret (v := .tuple #[.agg #[.int .i64 (mkN (n * k) (d * m)), .int .i64 (mkD (n * k) (d * m))], .int .i64 (mkE (n * k) (d * m))]) ?_ rfl ⟨by rw [H.out.1, H.out.2.1, H.out.2.2], Kin.Below.setC (Kin.Below.setC hB4 (by omega)) (by omega)⟩
      simp (maxDischargeDepth := 8) [results, Try.results32, go_sem, g5, g6]
/-- the reference's Cmp -/
theorem cmpV_false {n d m k : Int} (h : (okB n d && okB m k) = false) : cmpV n d m k = 0 ∧ bothE n d m k = 120 := by simp [cmpV, bothE, h]
theorem cmpV_true {n d m k : Int} (h : (okB n d && okB m k) = true) : cmpV n d m k = cmpI (n * k) (m * d) ∧ bothE n d m k = 0 := by simp [cmpV, bothE, h]
set_option maxHeartbeats 1000000 in
theorem rcmp_any (n d m k : Int) (w : World) :
    Calls Try.prog 33 #[.agg #[.int .i64 n, .int .i64 d], .agg #[.int .i64 m, .int .i64 k]] w fun e w' => e = .returned (.tuple #[.int .i64 (cmpV n d m k), .int .i64 (bothE n d m k)]) ∧ Below w.heap.size w w' := by
  obtain ⟨W0, hW0⟩ : ∃ W0, ((w.alloc (Obj.cells #[Value.int IntKind.i64 n, Value.int IntKind.i64 d] 23)).alloc (Obj.cells #[Value.int IntKind.i64 m, Value.int IntKind.i64 k] 23)) = W0 := ⟨_, rfl⟩
  have hB0 : Below w.heap.size w W0 := by rw [← hW0]; exact Kin.Below.allocC (Kin.Below.allocC (Below.refl w.heap.size w) (Nat.le_refl _)) (by simp)
  have hs0 : W0.heap.size = w.heap.size + 2 := by rw [← hW0]; simp
  have b1 : W0.cell? ⟨w.heap.size, 0, none⟩ = some (.int .i64 n) := by rw [← hW0]; simp [go_sem]
  have b2 : W0.cell? ⟨w.heap.size, 1, none⟩ = some (.int .i64 d) := by rw [← hW0]; simp [go_sem]
  have b3 : W0.cell? ⟨w.heap.size + 1, 0, none⟩ = some (.int .i64 m) := by rw [← hW0]; simp [go_sem]
  have b4 : W0.cell? ⟨w.heap.size + 1, 1, none⟩ = some (.int .i64 k) := by rw [← hW0]; simp [go_sem]
  have HW := Lib.hid hW0; clear hW0
  have HS := Lib.hid hs0; clear hs0
  cases hb : (okB n d && okB m k)
  · have H := Lib.hid (cmpV_false hb)
    have HB := Lib.hid hb; clear hb
    go_enter Try.func33, Try.ntmps33
    go_wp2_with fail
    rw [HW.out]
    refine (both_any n d m k _).mono ?_
    rintro e w1 ⟨rfl, hl1⟩
    rw [HB.out]
    have hB1 := Later.below hl1 hB0 (by rw [HS.out]; omega)
    clear hl1 b1 b2 b3 b4
    go_wp2
    go_ret2
    exact ⟨by rw [H.out.1, H.out.2]; rfl, hB1⟩
  · have HB := Lib.hid hb
    have HV := Lib.hid (cmpV_true hb)
    rw [Bool.and_eq_true] at hb
    obtain ⟨v1, v2, v3, v4, -⟩ := okB_iff.1 hb.1; obtain ⟨u1, u2, u3, u4, -⟩ := okB_iff.1 hb.2
    clear hb
    rcases Int.lt_trichotomy (n * k) (m * d) with hc | hc | hc
    · have H : Hid (cmpI (n * k) (m * d) = -1) := Lib.hid (by simp [cmpI, hc])
      have H1 : Hid (decide (n * k < m * d) = true) := Lib.hid (by simp [hc])
      clear hc
      go_enter Try.func33, Try.ntmps33
      go_wp2_with fail
      rw [HW.out]
      refine (both_any n d m k _).mono ?_
      rintro e w1 ⟨rfl, hl1⟩
      rw [HB.out]
      have hB1 := Later.below hl1 hB0 (by rw [HS.out]; omega)
      have hs1 := Later.size hl1
      rw [HS.out] at hs1
      have a1 := Later.cell hl1 b1; have a2 := Later.cell hl1 b2; have a3 := Later.cell hl1 b3; have a4 := Later.cell hl1 b4
      clear hl1 b1 b2 b3 b4
      go_wp2_with fail
      refine (less_any n d m k _ (by omega) (by omega) (by omega) (by omega) (by omega) (by omega) (by omega) (by omega)).mono ?_
      rintro e w2 ⟨rfl, hl2⟩
      rw [H1.out]
      have hB2 := Later.below hl2 hB1 (by omega)
      clear hl2
      go_wp2
      go_ret2
      exact ⟨by rw [HV.out.1, HV.out.2, H.out]; rfl, hB2⟩
    all_goals
      have H1 : Hid (decide (n * k < m * d) = false) := Lib.hid (by simp; omega)
      first
        | (have H : Hid (cmpI (n * k) (m * d) = 0 ∧ decide (m * d < n * k) = false) := Lib.hid (by rw [hc]; simp [cmpI]))
        | (have H : Hid (cmpI (n * k) (m * d) = 1 ∧ decide (m * d < n * k) = true) := Lib.hid ⟨by unfold cmpI; rw [if_neg (by omega), if_pos hc], by simp [hc]⟩)
      clear hc
      go_enter Try.func33, Try.ntmps33
      go_wp2_with fail
      rw [HW.out]
      refine (both_any n d m k _).mono ?_
      rintro e w1 ⟨rfl, hl1⟩
      rw [HB.out]
      have hB1 := Later.below hl1 hB0 (by rw [HS.out]; omega)
      have hs1 := Later.size hl1
      rw [HS.out] at hs1
      have a1 := Later.cell hl1 b1; have a2 := Later.cell hl1 b2; have a3 := Later.cell hl1 b3; have a4 := Later.cell hl1 b4
      clear hl1 b1 b2 b3 b4
      go_wp2_with fail
      refine (less_any n d m k _ (by omega) (by omega) (by omega) (by omega) (by omega) (by omega) (by omega) (by omega)).mono ?_
      rintro e w2 ⟨rfl, hl2⟩
      rw [H1.out]
      have hB2 := Later.below hl2 hB1 (by omega)
      have hs2 := Later.size hl2
      have c1 := Later.cell hl2 a1; have c2 := Later.cell hl2 a2; have c3 := Later.cell hl2 a3; have c4 := Later.cell hl2 a4
      clear hl2 a1 a2 a3 a4
      go_wp2_with fail
      refine (less_any m k n d _ (by omega) (by omega) (by omega) (by omega) (by omega) (by omega) (by omega) (by omega)).mono ?_
      rintro e w3 ⟨rfl, hl3⟩
      rw [H.out.2]
      have hB3 := Later.below hl3 hB2 (by omega)
      clear hl3
      go_wp2
      go_ret2
      exact ⟨by rw [HV.out.1, HV.out.2, H.out.1]; rfl, hB3⟩
end R12
end Go.Proofs

