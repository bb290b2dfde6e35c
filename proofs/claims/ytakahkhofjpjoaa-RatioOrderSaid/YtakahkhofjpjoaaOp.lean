/- The operations of ratio and of its reference walked. -/
import Derived.Test.YtakahkhofjpjoaaCm
import Derived.Test.YtakahkhofjpjoaaMk
import Derived.Test.YtakahkhofjpjoaaRm
namespace Go.Proofs
open Go.RowKit Go.Shelf Go.Kin
namespace R12
/-- the result of an operation: of valid operands, else of none -/
def resN (b : Bool) (x y : Int) : Int := if b then mkN x y else 0
def resD (b : Bool) (x y : Int) : Int := if b then mkD x y else 0
def resE (b : Bool) (x y : Int) : Int := if b then mkE x y else 120
theorem wrap_in {x : Int} (h1 : -9223372036854775808 ≤ x) (h2 : x ≤ 9223372036854775807) : IntKind.i64.wrap x = x := by
  simp only [IntKind.wrap, IntKind.bits, IntKind.signed]; simp; omega
set_option maxHeartbeats 400000 in
theorem clo_Add (n d m k : Int) (w : World) (h1 : -1073741824 ≤ n) (h2 : n ≤ 1073741824) (h3 : -1073741824 ≤ d) (h4 : d ≤ 1073741824) (h5 : -1073741824 ≤ m) (h6 : m ≤ 1073741824) (h7 : -1073741824 ≤ k) (h8 : k ≤ 1073741824) :
    Calls Try.prog 43 #[.agg #[.int .i64 n, .int .i64 d], .agg #[.int .i64 m, .int .i64 k]] w fun e w' => e = .returned (.tuple #[.int .i64 (n * k + m * d), .int .i64 (d * k)]) ∧ Below w.heap.size w w' := by
  obtain ⟨p1, p2⟩ := mul30 h1 h2 h7 h8
  obtain ⟨p3, p4⟩ := mul30 h5 h6 h3 h4
  obtain ⟨p5, p6⟩ := mul30 h3 h4 h7 h8
  obtain ⟨p7, p8⟩ := mul30 h1 h2 h5 h6
  obtain ⟨p9, p10⟩ := mul30 h3 h4 h5 h6
  have e1 : IntKind.i64.wrap (n * k) = n * k := wrap_in (by omega) (by omega)
  have e2 : IntKind.i64.wrap (m * d) = m * d := wrap_in (by omega) (by omega)
  have e3 : IntKind.i64.wrap (d * k) = d * k := wrap_in (by omega) (by omega)
  have e4 : IntKind.i64.wrap (n * m) = n * m := wrap_in (by omega) (by omega)
  have e5 : IntKind.i64.wrap (d * m) = d * m := wrap_in (by omega) (by omega)
  have e6 : IntKind.i64.wrap (n * k + m * d) = n * k + m * d := wrap_in (by omega) (by omega)
  have e7 : IntKind.i64.wrap (n * k - m * d) = n * k - m * d := wrap_in (by omega) (by omega)
  go_enter Try.func43, Try.ntmps43
  go_wp2
  go_quiet (fail)
  go_wp2
  go_ret2
  exact ⟨rfl, Kin.Below.drewNC (Kin.Below.allocC (Kin.Below.allocC (Below.refl _ _) (Nat.le_refl _)) (by simp))⟩
set_option maxHeartbeats 400000 in
theorem clo_Mul (n d m k : Int) (w : World) (h1 : -1073741824 ≤ n) (h2 : n ≤ 1073741824) (h3 : -1073741824 ≤ d) (h4 : d ≤ 1073741824) (h5 : -1073741824 ≤ m) (h6 : m ≤ 1073741824) (h7 : -1073741824 ≤ k) (h8 : k ≤ 1073741824) :
    Calls Try.prog 45 #[.agg #[.int .i64 n, .int .i64 d], .agg #[.int .i64 m, .int .i64 k]] w fun e w' => e = .returned (.tuple #[.int .i64 (n * m), .int .i64 (d * k)]) ∧ Below w.heap.size w w' := by
  obtain ⟨p1, p2⟩ := mul30 h1 h2 h7 h8
  obtain ⟨p3, p4⟩ := mul30 h5 h6 h3 h4
  obtain ⟨p5, p6⟩ := mul30 h3 h4 h7 h8
  obtain ⟨p7, p8⟩ := mul30 h1 h2 h5 h6
  obtain ⟨p9, p10⟩ := mul30 h3 h4 h5 h6
  have e1 : IntKind.i64.wrap (n * k) = n * k := wrap_in (by omega) (by omega)
  have e2 : IntKind.i64.wrap (m * d) = m * d := wrap_in (by omega) (by omega)
  have e3 : IntKind.i64.wrap (d * k) = d * k := wrap_in (by omega) (by omega)
  have e4 : IntKind.i64.wrap (n * m) = n * m := wrap_in (by omega) (by omega)
  have e5 : IntKind.i64.wrap (d * m) = d * m := wrap_in (by omega) (by omega)
  have e6 : IntKind.i64.wrap (n * k + m * d) = n * k + m * d := wrap_in (by omega) (by omega)
  have e7 : IntKind.i64.wrap (n * k - m * d) = n * k - m * d := wrap_in (by omega) (by omega)
  go_enter Try.func45, Try.ntmps45
  go_wp2
  go_quiet (fail)
  go_wp2
  go_ret2
  exact ⟨rfl, Kin.Below.drewNC (Kin.Below.allocC (Kin.Below.allocC (Below.refl _ _) (Nat.le_refl _)) (by simp))⟩
set_option maxHeartbeats 400000 in
theorem clo_Sub (n d m k : Int) (w : World) (h1 : -1073741824 ≤ n) (h2 : n ≤ 1073741824) (h3 : -1073741824 ≤ d) (h4 : d ≤ 1073741824) (h5 : -1073741824 ≤ m) (h6 : m ≤ 1073741824) (h7 : -1073741824 ≤ k) (h8 : k ≤ 1073741824) :
    Calls Try.prog 46 #[.agg #[.int .i64 n, .int .i64 d], .agg #[.int .i64 m, .int .i64 k]] w fun e w' => e = .returned (.tuple #[.int .i64 (n * k - m * d), .int .i64 (d * k)]) ∧ Below w.heap.size w w' := by
  obtain ⟨p1, p2⟩ := mul30 h1 h2 h7 h8
  obtain ⟨p3, p4⟩ := mul30 h5 h6 h3 h4
  obtain ⟨p5, p6⟩ := mul30 h3 h4 h7 h8
  obtain ⟨p7, p8⟩ := mul30 h1 h2 h5 h6
  obtain ⟨p9, p10⟩ := mul30 h3 h4 h5 h6
  have e1 : IntKind.i64.wrap (n * k) = n * k := wrap_in (by omega) (by omega)
  have e2 : IntKind.i64.wrap (m * d) = m * d := wrap_in (by omega) (by omega)
  have e3 : IntKind.i64.wrap (d * k) = d * k := wrap_in (by omega) (by omega)
  have e4 : IntKind.i64.wrap (n * m) = n * m := wrap_in (by omega) (by omega)
  have e5 : IntKind.i64.wrap (d * m) = d * m := wrap_in (by omega) (by omega)
  have e6 : IntKind.i64.wrap (n * k + m * d) = n * k + m * d := wrap_in (by omega) (by omega)
  have e7 : IntKind.i64.wrap (n * k - m * d) = n * k - m * d := wrap_in (by omega) (by omega)
  go_enter Try.func46, Try.ntmps46
  go_wp2
  go_quiet (fail)
  go_wp2
  go_ret2
  exact ⟨rfl, Kin.Below.drewNC (Kin.Below.allocC (Kin.Below.allocC (Below.refl _ _) (Nat.le_refl _)) (by simp))⟩
set_option maxHeartbeats 400000 in
theorem clo_Div (n d m k : Int) (w : World) (h1 : -1073741824 ≤ n) (h2 : n ≤ 1073741824) (h3 : -1073741824 ≤ d) (h4 : d ≤ 1073741824) (h5 : -1073741824 ≤ m) (h6 : m ≤ 1073741824) (h7 : -1073741824 ≤ k) (h8 : k ≤ 1073741824) :
    Calls Try.prog 47 #[.agg #[.int .i64 n, .int .i64 d], .agg #[.int .i64 m, .int .i64 k]] w fun e w' => e = .returned (.tuple #[.int .i64 (n * k), .int .i64 (d * m)]) ∧ Below w.heap.size w w' := by
  obtain ⟨p1, p2⟩ := mul30 h1 h2 h7 h8
  obtain ⟨p3, p4⟩ := mul30 h5 h6 h3 h4
  obtain ⟨p5, p6⟩ := mul30 h3 h4 h7 h8
  obtain ⟨p7, p8⟩ := mul30 h1 h2 h5 h6
  obtain ⟨p9, p10⟩ := mul30 h3 h4 h5 h6
  have e1 : IntKind.i64.wrap (n * k) = n * k := wrap_in (by omega) (by omega)
  have e2 : IntKind.i64.wrap (m * d) = m * d := wrap_in (by omega) (by omega)
  have e3 : IntKind.i64.wrap (d * k) = d * k := wrap_in (by omega) (by omega)
  have e4 : IntKind.i64.wrap (n * m) = n * m := wrap_in (by omega) (by omega)
  have e5 : IntKind.i64.wrap (d * m) = d * m := wrap_in (by omega) (by omega)
  have e6 : IntKind.i64.wrap (n * k + m * d) = n * k + m * d := wrap_in (by omega) (by omega)
  have e7 : IntKind.i64.wrap (n * k - m * d) = n * k - m * d := wrap_in (by omega) (by omega)
  go_enter Try.func47, Try.ntmps47
  go_wp2
  go_quiet (fail)
  go_wp2
  go_ret2
  exact ⟨rfl, Kin.Below.drewNC (Kin.Below.allocC (Kin.Below.allocC (Below.refl _ _) (Nat.le_refl _)) (by simp))⟩
set_option maxHeartbeats 2000000 in
theorem do_Add (n d m k : Int) (w : World) (hn : I64 n) (hd : I64 d) (hm : I64 m) (hk : I64 k) :
    Calls Try.prog 44 #[.agg #[.func (.func 43) #[] #[]], .agg #[.int .i64 n, .int .i64 d], .agg #[.int .i64 m, .int .i64 k]] w fun e w' => e = .returned (.tuple #[.agg #[.int .i64 (resN (okB n d && okB m k) (n * k + m * d) (d * k)), .int .i64 (resD (okB n d && okB m k) (n * k + m * d) (d * k))], .int .i64 (resE (okB n d && okB m k) (n * k + m * d) (d * k))]) ∧ Below w.heap.size w w' := by
  obtain ⟨h1, h2⟩ := hn; obtain ⟨h3, h4⟩ := hd; obtain ⟨h5, h6⟩ := hm; obtain ⟨h7, h8⟩ := hk
  obtain ⟨W0, hW0⟩ : ∃ W0, ((((w.alloc (Obj.cells #[.func (.func 43) #[] #[]] 59)).alloc (Obj.cells #[Value.int IntKind.i64 n, Value.int IntKind.i64 d] 23)).alloc (Obj.cells #[Value.int IntKind.i64 m, Value.int IntKind.i64 k] 23)).alloc (Obj.cells #[Value.int IntKind.i64 0, Value.int IntKind.i64 0] 23)) = W0 := ⟨_, rfl⟩
  have hB0 : Below w.heap.size w W0 := by rw [← hW0]; exact Kin.Below.allocC (Kin.Below.allocC (Kin.Below.allocC (Kin.Below.allocC (Below.refl w.heap.size w) (Nat.le_refl _)) (by simp)) (by simp; omega)) (by simp; omega)
  have hs0 : W0.heap.size = w.heap.size + 4 := by rw [← hW0]; simp
  have b0 : W0.cell? ⟨w.heap.size, 0, none⟩ = some (.func (.func 43) #[] #[]) := by rw [← hW0]; simp [go_sem]
  have b1 : W0.cell? ⟨w.heap.size + 1, 0, none⟩ = some (.int .i64 n) := by rw [← hW0]; simp [go_sem]
  have b2 : W0.cell? ⟨w.heap.size + 1, 1, none⟩ = some (.int .i64 d) := by rw [← hW0]; simp [go_sem]
  have b3 : W0.cell? ⟨w.heap.size + 1 + 1, 0, none⟩ = some (.int .i64 m) := by rw [← hW0]; simp [go_sem]
  have b4 : W0.cell? ⟨w.heap.size + 1 + 1, 1, none⟩ = some (.int .i64 k) := by rw [← hW0]; simp [go_sem]
  have b5 : W0.cell? ⟨w.heap.size + 1 + 1 + 1, 0, none⟩ = some (.int .i64 0) := by rw [← hW0]; simp [go_sem]
  have b6 : W0.cell? ⟨w.heap.size + 1 + 1 + 1, 1, none⟩ = some (.int .i64 0) := by rw [← hW0]; simp [go_sem]
  have b7 : W0.frozen? ⟨w.heap.size + 1 + 1 + 1, 0, none⟩ = false := by rw [← hW0]; simp [go_sem]
  have b8 : W0.frozen? ⟨w.heap.size + 1 + 1 + 1, 1, none⟩ = false := by rw [← hW0]; simp [go_sem]
  have HW := Lib.hid hW0; clear hW0
  have HS := Lib.hid hs0; clear hs0
  cases hb : okB n d
  · have H : Hid (resN (false && okB m k) (n * k + m * d) (d * k) = 0 ∧ resD (false && okB m k) (n * k + m * d) (d * k) = 0 ∧ resE (false && okB m k) (n * k + m * d) (d * k) = 120) := Lib.hid (by simp [resN, resD, resE])
    have HC := Lib.hid (chkE_false hb); clear hb
    go_enter Try.func44, Try.ntmps44
    go_wp2_with fail
    rw [HW.out]
    refine (check_any n d _ (by omega) (by omega) (by omega) (by omega)).mono ?_
    rintro e w1 ⟨rfl, hl1⟩
    rw [HC.out]
    have hB1 := Later.below hl1 hB0 (by rw [HS.out]; omega)
    have a5 := Later.cell hl1 b5; have a6 := Later.cell hl1 b6; have a7 := Later.frozen hl1 (lt_of_cell b5) b7; have a8 := Later.frozen hl1 (lt_of_cell b6) b8
    clear hl1 b0 b1 b2 b3 b4 b5 b6 b7 b8
    go_wp2
    refine bodyPost_ret (v := .tuple #[.agg #[.int .i64 0, .int .i64 0], .int .i64 120]) ?_ rfl ⟨by rw [H.out.1, H.out.2.1, H.out.2.2], Kin.Below.setC (Kin.Below.setC hB1 (by omega)) (by omega)⟩
    simp (maxDischargeDepth := 8) [results, Try.results44, go_sem, a5, a6]
  · have HC := Lib.hid (chkE_true hb)
    cases hb2 : okB m k
    · have H : Hid (resN (true && false) (n * k + m * d) (d * k) = 0 ∧ resD (true && false) (n * k + m * d) (d * k) = 0 ∧ resE (true && false) (n * k + m * d) (d * k) = 120) := Lib.hid (by simp [resN, resD, resE])
      have HC2 := Lib.hid (chkE_false hb2)
      clear hb hb2
      go_enter Try.func44, Try.ntmps44
      go_wp2_with fail
      rw [HW.out]
      refine (check_any n d _ (by omega) (by omega) (by omega) (by omega)).mono ?_
      rintro e w1 ⟨rfl, hl1⟩
      rw [HC.out]
      have hB1 := Later.below hl1 hB0 (by rw [HS.out]; omega)
      have hs1 := Later.size hl1
      rw [HS.out] at hs1
      have a3 := Later.cell hl1 b3; have a4 := Later.cell hl1 b4
      have a5 := Later.cell hl1 b5; have a6 := Later.cell hl1 b6; have a7 := Later.frozen hl1 (lt_of_cell b5) b7; have a8 := Later.frozen hl1 (lt_of_cell b6) b8
      clear hl1 b0 b1 b2 b3 b4 b5 b6 b7 b8
      go_wp2_with fail
      refine (check_any m k _ (by omega) (by omega) (by omega) (by omega)).mono ?_
      rintro e w2 ⟨rfl, hl2⟩
      rw [HC2.out]
      have hB2 := Later.below hl2 hB1 (by omega)
      have c5 := Later.cell hl2 a5; have c6 := Later.cell hl2 a6; have c7 := Later.frozen hl2 (lt_of_cell a5) a7; have c8 := Later.frozen hl2 (lt_of_cell a6) a8
      clear hl2 a3 a4 a5 a6 a7 a8
      go_wp2
      refine bodyPost_ret (v := .tuple #[.agg #[.int .i64 0, .int .i64 0], .int .i64 120]) ?_ rfl ⟨by rw [H.out.1, H.out.2.1, H.out.2.2], Kin.Below.setC (Kin.Below.setC hB2 (by omega)) (by omega)⟩
      simp (maxDischargeDepth := 8) [results, Try.results44, go_sem, c5, c6]
    · have H : Hid (resN (true && true) (n * k + m * d) (d * k) = mkN (n * k + m * d) (d * k) ∧ resD (true && true) (n * k + m * d) (d * k) = mkD (n * k + m * d) (d * k) ∧ resE (true && true) (n * k + m * d) (d * k) = mkE (n * k + m * d) (d * k)) := Lib.hid (by simp [resN, resD, resE])
      have HC2 := Lib.hid (chkE_true hb2)
      obtain ⟨v1, v2, v3, v4, -⟩ := okB_iff.1 hb; obtain ⟨u1, u2, u3, u4, -⟩ := okB_iff.1 hb2
      obtain ⟨p1, p2⟩ := mul30 v3 v4 (by omega : -1073741824 ≤ k) u2
      obtain ⟨p3, p4⟩ := mul30 u3 u4 (by omega : -1073741824 ≤ d) v2
      obtain ⟨p5, p6⟩ := mul30 (by omega : -1073741824 ≤ d) v2 (by omega : -1073741824 ≤ k) u2
      obtain ⟨p7, p8⟩ := mul30 v3 v4 u3 u4
      obtain ⟨p9, p10⟩ := mul30 (by omega : -1073741824 ≤ d) v2 u3 u4
      clear hb hb2
      go_enter Try.func44, Try.ntmps44
      go_wp2_with fail
      rw [HW.out]
      refine (check_any n d _ (by omega) (by omega) (by omega) (by omega)).mono ?_
      rintro e w1 ⟨rfl, hl1⟩
      rw [HC.out]
      have hB1 := Later.below hl1 hB0 (by rw [HS.out]; omega)
      have hs1 := Later.size hl1
      rw [HS.out] at hs1
      have a0 := Later.cell hl1 b0; have a1 := Later.cell hl1 b1; have a2 := Later.cell hl1 b2; have a3 := Later.cell hl1 b3; have a4 := Later.cell hl1 b4
      have a5 := Later.cell hl1 b5; have a6 := Later.cell hl1 b6; have a7 := Later.frozen hl1 (lt_of_cell b5) b7; have a8 := Later.frozen hl1 (lt_of_cell b6) b8
      clear hl1 b0 b1 b2 b3 b4 b5 b6 b7 b8
      go_wp2_with fail
      refine (check_any m k _ (by omega) (by omega) (by omega) (by omega)).mono ?_
      rintro e w2 ⟨rfl, hl2⟩
      rw [HC2.out]
      have hB2 := Later.below hl2 hB1 (by omega)
      have hs2 := Later.size hl2
      have c0 := Later.cell hl2 a0; have c1 := Later.cell hl2 a1; have c2 := Later.cell hl2 a2; have c3 := Later.cell hl2 a3; have c4 := Later.cell hl2 a4
      have c5 := Later.cell hl2 a5; have c6 := Later.cell hl2 a6; have c7 := Later.frozen hl2 (lt_of_cell a5) a7; have c8 := Later.frozen hl2 (lt_of_cell a6) a8
      clear hl2 a0 a1 a2 a3 a4 a5 a6 a7 a8
      go_wp2_with fail
      refine (clo_Add n d m k _ (by omega) (by omega) (by omega) (by omega) (by omega) (by omega) (by omega) (by omega)).mono ?_
      rintro e w3 ⟨rfl, hl3⟩
      have hB3 := Later.below hl3 hB2 (by omega)
      have hs3 := Later.size hl3
      have f5 := Later.cell hl3 c5; have f6 := Later.cell hl3 c6; have f7 := Later.frozen hl3 (lt_of_cell c5) c7; have f8 := Later.frozen hl3 (lt_of_cell c6) c8
      clear hl3 c0 c1 c2 c3 c4 c5 c6 c7 c8
      go_wp2_with fail
      refine (make_any (n * k + m * d) (d * k) _ (by omega) (by omega) (by omega) (by omega)).mono ?_
      rintro e w4 ⟨rfl, hl4⟩
      have hB4 := Later.below hl4 hB3 (by omega)
      have g5 := Later.cell hl4 f5; have g6 := Later.cell hl4 f6; have g7 := Later.frozen hl4 (lt_of_cell f5) f7; have g8 := Later.frozen hl4 (lt_of_cell f6) f8
      clear hl4 f5 f6 f7 f8
      go_wp2
      refine bodyPost_ret (v := .tuple #[.agg #[.int .i64 (mkN (n * k + m * d) (d * k)), .int .i64 (mkD (n * k + m * d) (d * k))], .int .i64 (mkE (n * k + m * d) (d * k))]) ?_ rfl ⟨by rw [H.out.1, H.out.2.1, H.out.2.2], Kin.Below.setC (Kin.Below.setC hB4 (by omega)) (by omega)⟩
      simp (maxDischargeDepth := 8) [results, Try.results44, go_sem, g5, g6]
set_option maxHeartbeats 1000000 in
theorem op_Add (n d m k : Int) (w : World) (hn : I64 n) (hd : I64 d) (hm : I64 m) (hk : I64 k) :
    Calls Try.prog 25 #[.agg #[.int .i64 n, .int .i64 d], .agg #[.int .i64 m, .int .i64 k]] w fun e w' => e = .returned (.tuple #[.agg #[.int .i64 (resN (okB n d && okB m k) (n * k + m * d) (d * k)), .int .i64 (resD (okB n d && okB m k) (n * k + m * d) (d * k))], .int .i64 (resE (okB n d && okB m k) (n * k + m * d) (d * k))]) ∧ Below w.heap.size w w' := by
  obtain ⟨W0, hW0⟩ : ∃ W0, (((w.alloc (Obj.cells #[Value.int IntKind.i64 n, Value.int IntKind.i64 d] 23)).alloc (Obj.cells #[Value.int IntKind.i64 m, Value.int IntKind.i64 k] 23)).alloc (Obj.cells #[Value.int IntKind.i64 0, Value.int IntKind.i64 0] 23)) = W0 := ⟨_, rfl⟩
  have hB0 : Below w.heap.size w W0 := by rw [← hW0]; exact Kin.Below.allocC (Kin.Below.allocC (Kin.Below.allocC (Below.refl w.heap.size w) (Nat.le_refl _)) (by simp)) (by simp; omega)
  have hs0 : W0.heap.size = w.heap.size + 3 := by rw [← hW0]; simp
  have b5 : W0.cell? ⟨w.heap.size + 1 + 1, 0, none⟩ = some (.int .i64 0) := by rw [← hW0]; simp [go_sem]
  have b6 : W0.cell? ⟨w.heap.size + 1 + 1, 1, none⟩ = some (.int .i64 0) := by rw [← hW0]; simp [go_sem]
  have b7 : W0.frozen? ⟨w.heap.size + 1 + 1, 0, none⟩ = false := by rw [← hW0]; simp [go_sem]
  have b8 : W0.frozen? ⟨w.heap.size + 1 + 1, 1, none⟩ = false := by rw [← hW0]; simp [go_sem]
  have HW := Lib.hid hW0; clear hW0
  have HS := Lib.hid hs0; clear hs0
  go_enter Try.func25, Try.ntmps25
  go_wp2_with fail
  rw [HW.out]
  refine (do_Add n d m k _ hn hd hm hk).mono ?_
  rintro e w4 ⟨rfl, hl4⟩
  have hB4 := Later.below hl4 hB0 (by rw [HS.out]; omega)
  have g5 := Later.cell hl4 b5; have g6 := Later.cell hl4 b6; have g7 := Later.frozen hl4 (lt_of_cell b5) b7; have g8 := Later.frozen hl4 (lt_of_cell b6) b8
  clear hl4 b5 b6 b7 b8
  go_wp2
  refine bodyPost_ret (v := .tuple #[.agg #[.int .i64 (resN (okB n d && okB m k) (n * k + m * d) (d * k)), .int .i64 (resD (okB n d && okB m k) (n * k + m * d) (d * k))], .int .i64 (resE (okB n d && okB m k) (n * k + m * d) (d * k))]) ?_ rfl ⟨rfl, Kin.Below.setC (Kin.Below.setC hB4 (by omega)) (by omega)⟩
  simp (maxDischargeDepth := 8) [results, Try.results25, go_sem, g5, g6]
set_option maxHeartbeats 2000000 in
theorem do_Mul (n d m k : Int) (w : World) (hn : I64 n) (hd : I64 d) (hm : I64 m) (hk : I64 k) :
    Calls Try.prog 44 #[.agg #[.func (.func 45) #[] #[]], .agg #[.int .i64 n, .int .i64 d], .agg #[.int .i64 m, .int .i64 k]] w fun e w' => e = .returned (.tuple #[.agg #[.int .i64 (resN (okB n d && okB m k) (n * m) (d * k)), .int .i64 (resD (okB n d && okB m k) (n * m) (d * k))], .int .i64 (resE (okB n d && okB m k) (n * m) (d * k))]) ∧ Below w.heap.size w w' := by
  obtain ⟨h1, h2⟩ := hn; obtain ⟨h3, h4⟩ := hd; obtain ⟨h5, h6⟩ := hm; obtain ⟨h7, h8⟩ := hk
  obtain ⟨W0, hW0⟩ : ∃ W0, ((((w.alloc (Obj.cells #[.func (.func 45) #[] #[]] 59)).alloc (Obj.cells #[Value.int IntKind.i64 n, Value.int IntKind.i64 d] 23)).alloc (Obj.cells #[Value.int IntKind.i64 m, Value.int IntKind.i64 k] 23)).alloc (Obj.cells #[Value.int IntKind.i64 0, Value.int IntKind.i64 0] 23)) = W0 := ⟨_, rfl⟩
  have hB0 : Below w.heap.size w W0 := by rw [← hW0]; exact Kin.Below.allocC (Kin.Below.allocC (Kin.Below.allocC (Kin.Below.allocC (Below.refl w.heap.size w) (Nat.le_refl _)) (by simp)) (by simp; omega)) (by simp; omega)
  have hs0 : W0.heap.size = w.heap.size + 4 := by rw [← hW0]; simp
  have b0 : W0.cell? ⟨w.heap.size, 0, none⟩ = some (.func (.func 45) #[] #[]) := by rw [← hW0]; simp [go_sem]
  have b1 : W0.cell? ⟨w.heap.size + 1, 0, none⟩ = some (.int .i64 n) := by rw [← hW0]; simp [go_sem]
  have b2 : W0.cell? ⟨w.heap.size + 1, 1, none⟩ = some (.int .i64 d) := by rw [← hW0]; simp [go_sem]
  have b3 : W0.cell? ⟨w.heap.size + 1 + 1, 0, none⟩ = some (.int .i64 m) := by rw [← hW0]; simp [go_sem]
  have b4 : W0.cell? ⟨w.heap.size + 1 + 1, 1, none⟩ = some (.int .i64 k) := by rw [← hW0]; simp [go_sem]
  have b5 : W0.cell? ⟨w.heap.size + 1 + 1 + 1, 0, none⟩ = some (.int .i64 0) := by rw [← hW0]; simp [go_sem]
  have b6 : W0.cell? ⟨w.heap.size + 1 + 1 + 1, 1, none⟩ = some (.int .i64 0) := by rw [← hW0]; simp [go_sem]
  have b7 : W0.frozen? ⟨w.heap.size + 1 + 1 + 1, 0, none⟩ = false := by rw [← hW0]; simp [go_sem]
  have b8 : W0.frozen? ⟨w.heap.size + 1 + 1 + 1, 1, none⟩ = false := by rw [← hW0]; simp [go_sem]
  have HW := Lib.hid hW0; clear hW0
  have HS := Lib.hid hs0; clear hs0
  cases hb : okB n d
  · have H : Hid (resN (false && okB m k) (n * m) (d * k) = 0 ∧ resD (false && okB m k) (n * m) (d * k) = 0 ∧ resE (false && okB m k) (n * m) (d * k) = 120) := Lib.hid (by simp [resN, resD, resE])
    have HC := Lib.hid (chkE_false hb); clear hb
    go_enter Try.func44, Try.ntmps44
    go_wp2_with fail
    rw [HW.out]
    refine (check_any n d _ (by omega) (by omega) (by omega) (by omega)).mono ?_
    rintro e w1 ⟨rfl, hl1⟩
    rw [HC.out]
    have hB1 := Later.below hl1 hB0 (by rw [HS.out]; omega)
    have a5 := Later.cell hl1 b5; have a6 := Later.cell hl1 b6; have a7 := Later.frozen hl1 (lt_of_cell b5) b7; have a8 := Later.frozen hl1 (lt_of_cell b6) b8
    clear hl1 b0 b1 b2 b3 b4 b5 b6 b7 b8
    go_wp2
    refine bodyPost_ret (v := .tuple #[.agg #[.int .i64 0, .int .i64 0], .int .i64 120]) ?_ rfl ⟨by rw [H.out.1, H.out.2.1, H.out.2.2], Kin.Below.setC (Kin.Below.setC hB1 (by omega)) (by omega)⟩
    simp (maxDischargeDepth := 8) [results, Try.results44, go_sem, a5, a6]
  · have HC := Lib.hid (chkE_true hb)
    cases hb2 : okB m k
    · have H : Hid (resN (true && false) (n * m) (d * k) = 0 ∧ resD (true && false) (n * m) (d * k) = 0 ∧ resE (true && false) (n * m) (d * k) = 120) := Lib.hid (by simp [resN, resD, resE])
      have HC2 := Lib.hid (chkE_false hb2)
      clear hb hb2
      go_enter Try.func44, Try.ntmps44
      go_wp2_with fail
      rw [HW.out]
      refine (check_any n d _ (by omega) (by omega) (by omega) (by omega)).mono ?_
      rintro e w1 ⟨rfl, hl1⟩
      rw [HC.out]
      have hB1 := Later.below hl1 hB0 (by rw [HS.out]; omega)
      have hs1 := Later.size hl1
      rw [HS.out] at hs1
      have a3 := Later.cell hl1 b3; have a4 := Later.cell hl1 b4
      have a5 := Later.cell hl1 b5; have a6 := Later.cell hl1 b6; have a7 := Later.frozen hl1 (lt_of_cell b5) b7; have a8 := Later.frozen hl1 (lt_of_cell b6) b8
      clear hl1 b0 b1 b2 b3 b4 b5 b6 b7 b8
      go_wp2_with fail
      refine (check_any m k _ (by omega) (by omega) (by omega) (by omega)).mono ?_
      rintro e w2 ⟨rfl, hl2⟩
      rw [HC2.out]
      have hB2 := Later.below hl2 hB1 (by omega)
      have c5 := Later.cell hl2 a5; have c6 := Later.cell hl2 a6; have c7 := Later.frozen hl2 (lt_of_cell a5) a7; have c8 := Later.frozen hl2 (lt_of_cell a6) a8
      clear hl2 a3 a4 a5 a6 a7 a8
      go_wp2
      refine bodyPost_ret (v := .tuple #[.agg #[.int .i64 0, .int .i64 0], .int .i64 120]) ?_ rfl ⟨by rw [H.out.1, H.out.2.1, H.out.2.2], Kin.Below.setC (Kin.Below.setC hB2 (by omega)) (by omega)⟩
      simp (maxDischargeDepth := 8) [results, Try.results44, go_sem, c5, c6]
    · have H : Hid (resN (true && true) (n * m) (d * k) = mkN (n * m) (d * k) ∧ resD (true && true) (n * m) (d * k) = mkD (n * m) (d * k) ∧ resE (true && true) (n * m) (d * k) = mkE (n * m) (d * k)) := Lib.hid (by simp [resN, resD, resE])
      have HC2 := Lib.hid (chkE_true hb2)
      obtain ⟨v1, v2, v3, v4, -⟩ := okB_iff.1 hb; obtain ⟨u1, u2, u3, u4, -⟩ := okB_iff.1 hb2
      obtain ⟨p1, p2⟩ := mul30 v3 v4 (by omega : -1073741824 ≤ k) u2
      obtain ⟨p3, p4⟩ := mul30 u3 u4 (by omega : -1073741824 ≤ d) v2
      obtain ⟨p5, p6⟩ := mul30 (by omega : -1073741824 ≤ d) v2 (by omega : -1073741824 ≤ k) u2
      obtain ⟨p7, p8⟩ := mul30 v3 v4 u3 u4
      obtain ⟨p9, p10⟩ := mul30 (by omega : -1073741824 ≤ d) v2 u3 u4
      clear hb hb2
      go_enter Try.func44, Try.ntmps44
      go_wp2_with fail
      rw [HW.out]
      refine (check_any n d _ (by omega) (by omega) (by omega) (by omega)).mono ?_
      rintro e w1 ⟨rfl, hl1⟩
      rw [HC.out]
      have hB1 := Later.below hl1 hB0 (by rw [HS.out]; omega)
      have hs1 := Later.size hl1
      rw [HS.out] at hs1
      have a0 := Later.cell hl1 b0; have a1 := Later.cell hl1 b1; have a2 := Later.cell hl1 b2; have a3 := Later.cell hl1 b3; have a4 := Later.cell hl1 b4
      have a5 := Later.cell hl1 b5; have a6 := Later.cell hl1 b6; have a7 := Later.frozen hl1 (lt_of_cell b5) b7; have a8 := Later.frozen hl1 (lt_of_cell b6) b8
      clear hl1 b0 b1 b2 b3 b4 b5 b6 b7 b8
      go_wp2_with fail
      refine (check_any m k _ (by omega) (by omega) (by omega) (by omega)).mono ?_
      rintro e w2 ⟨rfl, hl2⟩
      rw [HC2.out]
      have hB2 := Later.below hl2 hB1 (by omega)
      have hs2 := Later.size hl2
      have c0 := Later.cell hl2 a0; have c1 := Later.cell hl2 a1; have c2 := Later.cell hl2 a2; have c3 := Later.cell hl2 a3; have c4 := Later.cell hl2 a4
      have c5 := Later.cell hl2 a5; have c6 := Later.cell hl2 a6; have c7 := Later.frozen hl2 (lt_of_cell a5) a7; have c8 := Later.frozen hl2 (lt_of_cell a6) a8
      clear hl2 a0 a1 a2 a3 a4 a5 a6 a7 a8
      go_wp2_with fail
      refine (clo_Mul n d m k _ (by omega) (by omega) (by omega) (by omega) (by omega) (by omega) (by omega) (by omega)).mono ?_
      rintro e w3 ⟨rfl, hl3⟩
      have hB3 := Later.below hl3 hB2 (by omega)
      have hs3 := Later.size hl3
      have f5 := Later.cell hl3 c5; have f6 := Later.cell hl3 c6; have f7 := Later.frozen hl3 (lt_of_cell c5) c7; have f8 := Later.frozen hl3 (lt_of_cell c6) c8
      clear hl3 c0 c1 c2 c3 c4 c5 c6 c7 c8
      go_wp2_with fail
      refine (make_any (n * m) (d * k) _ (by omega) (by omega) (by omega) (by omega)).mono ?_
      rintro e w4 ⟨rfl, hl4⟩
      have hB4 := Later.below hl4 hB3 (by omega)
      have g5 := Later.cell hl4 f5; have g6 := Later.cell hl4 f6; have g7 := Later.frozen hl4 (lt_of_cell f5) f7; have g8 := Later.frozen hl4 (lt_of_cell f6) f8
      clear hl4 f5 f6 f7 f8
      go_wp2
      refine bodyPost_ret (v := .tuple #[.agg #[.int .i64 (mkN (n * m) (d * k)), .int .i64 (mkD (n * m) (d * k))], .int .i64 (mkE (n * m) (d * k))]) ?_ rfl ⟨by rw [H.out.1, H.out.2.1, H.out.2.2], Kin.Below.setC (Kin.Below.setC hB4 (by omega)) (by omega)⟩
      simp (maxDischargeDepth := 8) [results, Try.results44, go_sem, g5, g6]
set_option maxHeartbeats 1000000 in
theorem op_Mul (n d m k : Int) (w : World) (hn : I64 n) (hd : I64 d) (hm : I64 m) (hk : I64 k) :
    Calls Try.prog 26 #[.agg #[.int .i64 n, .int .i64 d], .agg #[.int .i64 m, .int .i64 k]] w fun e w' => e = .returned (.tuple #[.agg #[.int .i64 (resN (okB n d && okB m k) (n * m) (d * k)), .int .i64 (resD (okB n d && okB m k) (n * m) (d * k))], .int .i64 (resE (okB n d && okB m k) (n * m) (d * k))]) ∧ Below w.heap.size w w' := by
  obtain ⟨W0, hW0⟩ : ∃ W0, (((w.alloc (Obj.cells #[Value.int IntKind.i64 n, Value.int IntKind.i64 d] 23)).alloc (Obj.cells #[Value.int IntKind.i64 m, Value.int IntKind.i64 k] 23)).alloc (Obj.cells #[Value.int IntKind.i64 0, Value.int IntKind.i64 0] 23)) = W0 := ⟨_, rfl⟩
  have hB0 : Below w.heap.size w W0 := by rw [← hW0]; exact Kin.Below.allocC (Kin.Below.allocC (Kin.Below.allocC (Below.refl w.heap.size w) (Nat.le_refl _)) (by simp)) (by simp; omega)
  have hs0 : W0.heap.size = w.heap.size + 3 := by rw [← hW0]; simp
  have b5 : W0.cell? ⟨w.heap.size + 1 + 1, 0, none⟩ = some (.int .i64 0) := by rw [← hW0]; simp [go_sem]
  have b6 : W0.cell? ⟨w.heap.size + 1 + 1, 1, none⟩ = some (.int .i64 0) := by rw [← hW0]; simp [go_sem]
  have b7 : W0.frozen? ⟨w.heap.size + 1 + 1, 0, none⟩ = false := by rw [← hW0]; simp [go_sem]
  have b8 : W0.frozen? ⟨w.heap.size + 1 + 1, 1, none⟩ = false := by rw [← hW0]; simp [go_sem]
  have HW := Lib.hid hW0; clear hW0
  have HS := Lib.hid hs0; clear hs0
  go_enter Try.func26, Try.ntmps26
  go_wp2_with fail
  rw [HW.out]
  refine (do_Mul n d m k _ hn hd hm hk).mono ?_
  rintro e w4 ⟨rfl, hl4⟩
  have hB4 := Later.below hl4 hB0 (by rw [HS.out]; omega)
  have g5 := Later.cell hl4 b5; have g6 := Later.cell hl4 b6; have g7 := Later.frozen hl4 (lt_of_cell b5) b7; have g8 := Later.frozen hl4 (lt_of_cell b6) b8
  clear hl4 b5 b6 b7 b8
  go_wp2
  refine bodyPost_ret (v := .tuple #[.agg #[.int .i64 (resN (okB n d && okB m k) (n * m) (d * k)), .int .i64 (resD (okB n d && okB m k) (n * m) (d * k))], .int .i64 (resE (okB n d && okB m k) (n * m) (d * k))]) ?_ rfl ⟨rfl, Kin.Below.setC (Kin.Below.setC hB4 (by omega)) (by omega)⟩
  simp (maxDischargeDepth := 8) [results, Try.results26, go_sem, g5, g6]
set_option maxHeartbeats 2000000 in
theorem do_Sub (n d m k : Int) (w : World) (hn : I64 n) (hd : I64 d) (hm : I64 m) (hk : I64 k) :
    Calls Try.prog 44 #[.agg #[.func (.func 46) #[] #[]], .agg #[.int .i64 n, .int .i64 d], .agg #[.int .i64 m, .int .i64 k]] w fun e w' => e = .returned (.tuple #[.agg #[.int .i64 (resN (okB n d && okB m k) (n * k - m * d) (d * k)), .int .i64 (resD (okB n d && okB m k) (n * k - m * d) (d * k))], .int .i64 (resE (okB n d && okB m k) (n * k - m * d) (d * k))]) ∧ Below w.heap.size w w' := by
  obtain ⟨h1, h2⟩ := hn; obtain ⟨h3, h4⟩ := hd; obtain ⟨h5, h6⟩ := hm; obtain ⟨h7, h8⟩ := hk
  obtain ⟨W0, hW0⟩ : ∃ W0, ((((w.alloc (Obj.cells #[.func (.func 46) #[] #[]] 59)).alloc (Obj.cells #[Value.int IntKind.i64 n, Value.int IntKind.i64 d] 23)).alloc (Obj.cells #[Value.int IntKind.i64 m, Value.int IntKind.i64 k] 23)).alloc (Obj.cells #[Value.int IntKind.i64 0, Value.int IntKind.i64 0] 23)) = W0 := ⟨_, rfl⟩
  have hB0 : Below w.heap.size w W0 := by rw [← hW0]; exact Kin.Below.allocC (Kin.Below.allocC (Kin.Below.allocC (Kin.Below.allocC (Below.refl w.heap.size w) (Nat.le_refl _)) (by simp)) (by simp; omega)) (by simp; omega)
  have hs0 : W0.heap.size = w.heap.size + 4 := by rw [← hW0]; simp
  have b0 : W0.cell? ⟨w.heap.size, 0, none⟩ = some (.func (.func 46) #[] #[]) := by rw [← hW0]; simp [go_sem]
  have b1 : W0.cell? ⟨w.heap.size + 1, 0, none⟩ = some (.int .i64 n) := by rw [← hW0]; simp [go_sem]
  have b2 : W0.cell? ⟨w.heap.size + 1, 1, none⟩ = some (.int .i64 d) := by rw [← hW0]; simp [go_sem]
  have b3 : W0.cell? ⟨w.heap.size + 1 + 1, 0, none⟩ = some (.int .i64 m) := by rw [← hW0]; simp [go_sem]
  have b4 : W0.cell? ⟨w.heap.size + 1 + 1, 1, none⟩ = some (.int .i64 k) := by rw [← hW0]; simp [go_sem]
  have b5 : W0.cell? ⟨w.heap.size + 1 + 1 + 1, 0, none⟩ = some (.int .i64 0) := by rw [← hW0]; simp [go_sem]
  have b6 : W0.cell? ⟨w.heap.size + 1 + 1 + 1, 1, none⟩ = some (.int .i64 0) := by rw [← hW0]; simp [go_sem]
  have b7 : W0.frozen? ⟨w.heap.size + 1 + 1 + 1, 0, none⟩ = false := by rw [← hW0]; simp [go_sem]
  have b8 : W0.frozen? ⟨w.heap.size + 1 + 1 + 1, 1, none⟩ = false := by rw [← hW0]; simp [go_sem]
  have HW := Lib.hid hW0; clear hW0
  have HS := Lib.hid hs0; clear hs0
  cases hb : okB n d
  · have H : Hid (resN (false && okB m k) (n * k - m * d) (d * k) = 0 ∧ resD (false && okB m k) (n * k - m * d) (d * k) = 0 ∧ resE (false && okB m k) (n * k - m * d) (d * k) = 120) := Lib.hid (by simp [resN, resD, resE])
    have HC := Lib.hid (chkE_false hb); clear hb
    go_enter Try.func44, Try.ntmps44
    go_wp2_with fail
    rw [HW.out]
    refine (check_any n d _ (by omega) (by omega) (by omega) (by omega)).mono ?_
    rintro e w1 ⟨rfl, hl1⟩
    rw [HC.out]
    have hB1 := Later.below hl1 hB0 (by rw [HS.out]; omega)
    have a5 := Later.cell hl1 b5; have a6 := Later.cell hl1 b6; have a7 := Later.frozen hl1 (lt_of_cell b5) b7; have a8 := Later.frozen hl1 (lt_of_cell b6) b8
    clear hl1 b0 b1 b2 b3 b4 b5 b6 b7 b8
    go_wp2
    refine bodyPost_ret (v := .tuple #[.agg #[.int .i64 0, .int .i64 0], .int .i64 120]) ?_ rfl ⟨by rw [H.out.1, H.out.2.1, H.out.2.2], Kin.Below.setC (Kin.Below.setC hB1 (by omega)) (by omega)⟩
    simp (maxDischargeDepth := 8) [results, Try.results44, go_sem, a5, a6]
  · have HC := Lib.hid (chkE_true hb)
    cases hb2 : okB m k
    · have H : Hid (resN (true && false) (n * k - m * d) (d * k) = 0 ∧ resD (true && false) (n * k - m * d) (d * k) = 0 ∧ resE (true && false) (n * k - m * d) (d * k) = 120) := Lib.hid (by simp [resN, resD, resE])
      have HC2 := Lib.hid (chkE_false hb2)
      clear hb hb2
      go_enter Try.func44, Try.ntmps44
      go_wp2_with fail
      rw [HW.out]
      refine (check_any n d _ (by omega) (by omega) (by omega) (by omega)).mono ?_
      rintro e w1 ⟨rfl, hl1⟩
      rw [HC.out]
      have hB1 := Later.below hl1 hB0 (by rw [HS.out]; omega)
      have hs1 := Later.size hl1
      rw [HS.out] at hs1
      have a3 := Later.cell hl1 b3; have a4 := Later.cell hl1 b4
      have a5 := Later.cell hl1 b5; have a6 := Later.cell hl1 b6; have a7 := Later.frozen hl1 (lt_of_cell b5) b7; have a8 := Later.frozen hl1 (lt_of_cell b6) b8
      clear hl1 b0 b1 b2 b3 b4 b5 b6 b7 b8
      go_wp2_with fail
      refine (check_any m k _ (by omega) (by omega) (by omega) (by omega)).mono ?_
      rintro e w2 ⟨rfl, hl2⟩
      rw [HC2.out]
      have hB2 := Later.below hl2 hB1 (by omega)
      have c5 := Later.cell hl2 a5; have c6 := Later.cell hl2 a6; have c7 := Later.frozen hl2 (lt_of_cell a5) a7; have c8 := Later.frozen hl2 (lt_of_cell a6) a8
      clear hl2 a3 a4 a5 a6 a7 a8
      go_wp2
      refine bodyPost_ret (v := .tuple #[.agg #[.int .i64 0, .int .i64 0], .int .i64 120]) ?_ rfl ⟨by rw [H.out.1, H.out.2.1, H.out.2.2], Kin.Below.setC (Kin.Below.setC hB2 (by omega)) (by omega)⟩
      simp (maxDischargeDepth := 8) [results, Try.results44, go_sem, c5, c6]
    · have H : Hid (resN (true && true) (n * k - m * d) (d * k) = mkN (n * k - m * d) (d * k) ∧ resD (true && true) (n * k - m * d) (d * k) = mkD (n * k - m * d) (d * k) ∧ resE (true && true) (n * k - m * d) (d * k) = mkE (n * k - m * d) (d * k)) := Lib.hid (by simp [resN, resD, resE])
      have HC2 := Lib.hid (chkE_true hb2)
      obtain ⟨v1, v2, v3, v4, -⟩ := okB_iff.1 hb; obtain ⟨u1, u2, u3, u4, -⟩ := okB_iff.1 hb2
      obtain ⟨p1, p2⟩ := mul30 v3 v4 (by omega : -1073741824 ≤ k) u2
      obtain ⟨p3, p4⟩ := mul30 u3 u4 (by omega : -1073741824 ≤ d) v2
      obtain ⟨p5, p6⟩ := mul30 (by omega : -1073741824 ≤ d) v2 (by omega : -1073741824 ≤ k) u2
      obtain ⟨p7, p8⟩ := mul30 v3 v4 u3 u4
      obtain ⟨p9, p10⟩ := mul30 (by omega : -1073741824 ≤ d) v2 u3 u4
      clear hb hb2
      go_enter Try.func44, Try.ntmps44
      go_wp2_with fail
      rw [HW.out]
      refine (check_any n d _ (by omega) (by omega) (by omega) (by omega)).mono ?_
      rintro e w1 ⟨rfl, hl1⟩
      rw [HC.out]
      have hB1 := Later.below hl1 hB0 (by rw [HS.out]; omega)
      have hs1 := Later.size hl1
      rw [HS.out] at hs1
      have a0 := Later.cell hl1 b0; have a1 := Later.cell hl1 b1; have a2 := Later.cell hl1 b2; have a3 := Later.cell hl1 b3; have a4 := Later.cell hl1 b4
      have a5 := Later.cell hl1 b5; have a6 := Later.cell hl1 b6; have a7 := Later.frozen hl1 (lt_of_cell b5) b7; have a8 := Later.frozen hl1 (lt_of_cell b6) b8
      clear hl1 b0 b1 b2 b3 b4 b5 b6 b7 b8
      go_wp2_with fail
      refine (check_any m k _ (by omega) (by omega) (by omega) (by omega)).mono ?_
      rintro e w2 ⟨rfl, hl2⟩
      rw [HC2.out]
      have hB2 := Later.below hl2 hB1 (by omega)
      have hs2 := Later.size hl2
      have c0 := Later.cell hl2 a0; have c1 := Later.cell hl2 a1; have c2 := Later.cell hl2 a2; have c3 := Later.cell hl2 a3; have c4 := Later.cell hl2 a4
      have c5 := Later.cell hl2 a5; have c6 := Later.cell hl2 a6; have c7 := Later.frozen hl2 (lt_of_cell a5) a7; have c8 := Later.frozen hl2 (lt_of_cell a6) a8
      clear hl2 a0 a1 a2 a3 a4 a5 a6 a7 a8
      go_wp2_with fail
      refine (clo_Sub n d m k _ (by omega) (by omega) (by omega) (by omega) (by omega) (by omega) (by omega) (by omega)).mono ?_
      rintro e w3 ⟨rfl, hl3⟩
      have hB3 := Later.below hl3 hB2 (by omega)
      have hs3 := Later.size hl3
      have f5 := Later.cell hl3 c5; have f6 := Later.cell hl3 c6; have f7 := Later.frozen hl3 (lt_of_cell c5) c7; have f8 := Later.frozen hl3 (lt_of_cell c6) c8
      clear hl3 c0 c1 c2 c3 c4 c5 c6 c7 c8
      go_wp2_with fail
      refine (make_any (n * k - m * d) (d * k) _ (by omega) (by omega) (by omega) (by omega)).mono ?_
      rintro e w4 ⟨rfl, hl4⟩
      have hB4 := Later.below hl4 hB3 (by omega)
      have g5 := Later.cell hl4 f5; have g6 := Later.cell hl4 f6; have g7 := Later.frozen hl4 (lt_of_cell f5) f7; have g8 := Later.frozen hl4 (lt_of_cell f6) f8
      clear hl4 f5 f6 f7 f8
      go_wp2
      refine bodyPost_ret (v := .tuple #[.agg #[.int .i64 (mkN (n * k - m * d) (d * k)), .int .i64 (mkD (n * k - m * d) (d * k))], .int .i64 (mkE (n * k - m * d) (d * k))]) ?_ rfl ⟨by rw [H.out.1, H.out.2.1, H.out.2.2], Kin.Below.setC (Kin.Below.setC hB4 (by omega)) (by omega)⟩
      simp (maxDischargeDepth := 8) [results, Try.results44, go_sem, g5, g6]
set_option maxHeartbeats 1000000 in
theorem op_Sub (n d m k : Int) (w : World) (hn : I64 n) (hd : I64 d) (hm : I64 m) (hk : I64 k) :
    Calls Try.prog 28 #[.agg #[.int .i64 n, .int .i64 d], .agg #[.int .i64 m, .int .i64 k]] w fun e w' => e = .returned (.tuple #[.agg #[.int .i64 (resN (okB n d && okB m k) (n * k - m * d) (d * k)), .int .i64 (resD (okB n d && okB m k) (n * k - m * d) (d * k))], .int .i64 (resE (okB n d && okB m k) (n * k - m * d) (d * k))]) ∧ Below w.heap.size w w' := by
  obtain ⟨W0, hW0⟩ : ∃ W0, (((w.alloc (Obj.cells #[Value.int IntKind.i64 n, Value.int IntKind.i64 d] 23)).alloc (Obj.cells #[Value.int IntKind.i64 m, Value.int IntKind.i64 k] 23)).alloc (Obj.cells #[Value.int IntKind.i64 0, Value.int IntKind.i64 0] 23)) = W0 := ⟨_, rfl⟩
  have hB0 : Below w.heap.size w W0 := by rw [← hW0]; exact Kin.Below.allocC (Kin.Below.allocC (Kin.Below.allocC (Below.refl w.heap.size w) (Nat.le_refl _)) (by simp)) (by simp; omega)
  have hs0 : W0.heap.size = w.heap.size + 3 := by rw [← hW0]; simp
  have b5 : W0.cell? ⟨w.heap.size + 1 + 1, 0, none⟩ = some (.int .i64 0) := by rw [← hW0]; simp [go_sem]
  have b6 : W0.cell? ⟨w.heap.size + 1 + 1, 1, none⟩ = some (.int .i64 0) := by rw [← hW0]; simp [go_sem]
  have b7 : W0.frozen? ⟨w.heap.size + 1 + 1, 0, none⟩ = false := by rw [← hW0]; simp [go_sem]
  have b8 : W0.frozen? ⟨w.heap.size + 1 + 1, 1, none⟩ = false := by rw [← hW0]; simp [go_sem]
  have HW := Lib.hid hW0; clear hW0
  have HS := Lib.hid hs0; clear hs0
  go_enter Try.func28, Try.ntmps28
  go_wp2_with fail
  rw [HW.out]
  refine (do_Sub n d m k _ hn hd hm hk).mono ?_
  rintro e w4 ⟨rfl, hl4⟩
  have hB4 := Later.below hl4 hB0 (by rw [HS.out]; omega)
  have g5 := Later.cell hl4 b5; have g6 := Later.cell hl4 b6; have g7 := Later.frozen hl4 (lt_of_cell b5) b7; have g8 := Later.frozen hl4 (lt_of_cell b6) b8
  clear hl4 b5 b6 b7 b8
  go_wp2
  refine bodyPost_ret (v := .tuple #[.agg #[.int .i64 (resN (okB n d && okB m k) (n * k - m * d) (d * k)), .int .i64 (resD (okB n d && okB m k) (n * k - m * d) (d * k))], .int .i64 (resE (okB n d && okB m k) (n * k - m * d) (d * k))]) ?_ rfl ⟨rfl, Kin.Below.setC (Kin.Below.setC hB4 (by omega)) (by omega)⟩
  simp (maxDischargeDepth := 8) [results, Try.results28, go_sem, g5, g6]
set_option maxHeartbeats 2000000 in
theorem do_Div (n d m k : Int) (w : World) (hn : I64 n) (hd : I64 d) (hm : I64 m) (hk : I64 k) :
    Calls Try.prog 44 #[.agg #[.func (.func 47) #[] #[]], .agg #[.int .i64 n, .int .i64 d], .agg #[.int .i64 m, .int .i64 k]] w fun e w' => e = .returned (.tuple #[.agg #[.int .i64 (resN (okB n d && okB m k) (n * k) (d * m)), .int .i64 (resD (okB n d && okB m k) (n * k) (d * m))], .int .i64 (resE (okB n d && okB m k) (n * k) (d * m))]) ∧ Below w.heap.size w w' := by
  obtain ⟨h1, h2⟩ := hn; obtain ⟨h3, h4⟩ := hd; obtain ⟨h5, h6⟩ := hm; obtain ⟨h7, h8⟩ := hk
  obtain ⟨W0, hW0⟩ : ∃ W0, ((((w.alloc (Obj.cells #[.func (.func 47) #[] #[]] 59)).alloc (Obj.cells #[Value.int IntKind.i64 n, Value.int IntKind.i64 d] 23)).alloc (Obj.cells #[Value.int IntKind.i64 m, Value.int IntKind.i64 k] 23)).alloc (Obj.cells #[Value.int IntKind.i64 0, Value.int IntKind.i64 0] 23)) = W0 := ⟨_, rfl⟩
  have hB0 : Below w.heap.size w W0 := by rw [← hW0]; exact Kin.Below.allocC (Kin.Below.allocC (Kin.Below.allocC (Kin.Below.allocC (Below.refl w.heap.size w) (Nat.le_refl _)) (by simp)) (by simp; omega)) (by simp; omega)
  have hs0 : W0.heap.size = w.heap.size + 4 := by rw [← hW0]; simp
  have b0 : W0.cell? ⟨w.heap.size, 0, none⟩ = some (.func (.func 47) #[] #[]) := by rw [← hW0]; simp [go_sem]
  have b1 : W0.cell? ⟨w.heap.size + 1, 0, none⟩ = some (.int .i64 n) := by rw [← hW0]; simp [go_sem]
  have b2 : W0.cell? ⟨w.heap.size + 1, 1, none⟩ = some (.int .i64 d) := by rw [← hW0]; simp [go_sem]
  have b3 : W0.cell? ⟨w.heap.size + 1 + 1, 0, none⟩ = some (.int .i64 m) := by rw [← hW0]; simp [go_sem]
  have b4 : W0.cell? ⟨w.heap.size + 1 + 1, 1, none⟩ = some (.int .i64 k) := by rw [← hW0]; simp [go_sem]
  have b5 : W0.cell? ⟨w.heap.size + 1 + 1 + 1, 0, none⟩ = some (.int .i64 0) := by rw [← hW0]; simp [go_sem]
  have b6 : W0.cell? ⟨w.heap.size + 1 + 1 + 1, 1, none⟩ = some (.int .i64 0) := by rw [← hW0]; simp [go_sem]
  have b7 : W0.frozen? ⟨w.heap.size + 1 + 1 + 1, 0, none⟩ = false := by rw [← hW0]; simp [go_sem]
  have b8 : W0.frozen? ⟨w.heap.size + 1 + 1 + 1, 1, none⟩ = false := by rw [← hW0]; simp [go_sem]
  have HW := Lib.hid hW0; clear hW0
  have HS := Lib.hid hs0; clear hs0
  cases hb : okB n d
  · have H : Hid (resN (false && okB m k) (n * k) (d * m) = 0 ∧ resD (false && okB m k) (n * k) (d * m) = 0 ∧ resE (false && okB m k) (n * k) (d * m) = 120) := Lib.hid (by simp [resN, resD, resE])
    have HC := Lib.hid (chkE_false hb); clear hb
    go_enter Try.func44, Try.ntmps44
    go_wp2_with fail
    rw [HW.out]
    refine (check_any n d _ (by omega) (by omega) (by omega) (by omega)).mono ?_
    rintro e w1 ⟨rfl, hl1⟩
    rw [HC.out]
    have hB1 := Later.below hl1 hB0 (by rw [HS.out]; omega)
    have a5 := Later.cell hl1 b5; have a6 := Later.cell hl1 b6; have a7 := Later.frozen hl1 (lt_of_cell b5) b7; have a8 := Later.frozen hl1 (lt_of_cell b6) b8
    clear hl1 b0 b1 b2 b3 b4 b5 b6 b7 b8
    go_wp2
    refine bodyPost_ret (v := .tuple #[.agg #[.int .i64 0, .int .i64 0], .int .i64 120]) ?_ rfl ⟨by rw [H.out.1, H.out.2.1, H.out.2.2], Kin.Below.setC (Kin.Below.setC hB1 (by omega)) (by omega)⟩
    simp (maxDischargeDepth := 8) [results, Try.results44, go_sem, a5, a6]
  · have HC := Lib.hid (chkE_true hb)
    cases hb2 : okB m k
    · have H : Hid (resN (true && false) (n * k) (d * m) = 0 ∧ resD (true && false) (n * k) (d * m) = 0 ∧ resE (true && false) (n * k) (d * m) = 120) := Lib.hid (by simp [resN, resD, resE])
      have HC2 := Lib.hid (chkE_false hb2)
      clear hb hb2
      go_enter Try.func44, Try.ntmps44
      go_wp2_with fail
      rw [HW.out]
      refine (check_any n d _ (by omega) (by omega) (by omega) (by omega)).mono ?_
      rintro e w1 ⟨rfl, hl1⟩
      rw [HC.out]
      have hB1 := Later.below hl1 hB0 (by rw [HS.out]; omega)
      have hs1 := Later.size hl1
      rw [HS.out] at hs1
      have a3 := Later.cell hl1 b3; have a4 := Later.cell hl1 b4
      have a5 := Later.cell hl1 b5; have a6 := Later.cell hl1 b6; have a7 := Later.frozen hl1 (lt_of_cell b5) b7; have a8 := Later.frozen hl1 (lt_of_cell b6) b8
      clear hl1 b0 b1 b2 b3 b4 b5 b6 b7 b8
      go_wp2_with fail
      refine (check_any m k _ (by omega) (by omega) (by omega) (by omega)).mono ?_
      rintro e w2 ⟨rfl, hl2⟩
      rw [HC2.out]
      have hB2 := Later.below hl2 hB1 (by omega)
      have c5 := Later.cell hl2 a5; have c6 := Later.cell hl2 a6; have c7 := Later.frozen hl2 (lt_of_cell a5) a7; have c8 := Later.frozen hl2 (lt_of_cell a6) a8
      clear hl2 a3 a4 a5 a6 a7 a8
      go_wp2
      refine bodyPost_ret (v := .tuple #[.agg #[.int .i64 0, .int .i64 0], .int .i64 120]) ?_ rfl ⟨by rw [H.out.1, H.out.2.1, H.out.2.2], Kin.Below.setC (Kin.Below.setC hB2 (by omega)) (by omega)⟩
      simp (maxDischargeDepth := 8) [results, Try.results44, go_sem, c5, c6]
    · have H : Hid (resN (true && true) (n * k) (d * m) = mkN (n * k) (d * m) ∧ resD (true && true) (n * k) (d * m) = mkD (n * k) (d * m) ∧ resE (true && true) (n * k) (d * m) = mkE (n * k) (d * m)) := Lib.hid (by simp [resN, resD, resE])
      have HC2 := Lib.hid (chkE_true hb2)
      obtain ⟨v1, v2, v3, v4, -⟩ := okB_iff.1 hb; obtain ⟨u1, u2, u3, u4, -⟩ := okB_iff.1 hb2
      obtain ⟨p1, p2⟩ := mul30 v3 v4 (by omega : -1073741824 ≤ k) u2
      obtain ⟨p3, p4⟩ := mul30 u3 u4 (by omega : -1073741824 ≤ d) v2
      obtain ⟨p5, p6⟩ := mul30 (by omega : -1073741824 ≤ d) v2 (by omega : -1073741824 ≤ k) u2
      obtain ⟨p7, p8⟩ := mul30 v3 v4 u3 u4
      obtain ⟨p9, p10⟩ := mul30 (by omega : -1073741824 ≤ d) v2 u3 u4
      clear hb hb2
      go_enter Try.func44, Try.ntmps44
      go_wp2_with fail
      rw [HW.out]
      refine (check_any n d _ (by omega) (by omega) (by omega) (by omega)).mono ?_
      rintro e w1 ⟨rfl, hl1⟩
      rw [HC.out]
      have hB1 := Later.below hl1 hB0 (by rw [HS.out]; omega)
      have hs1 := Later.size hl1
      rw [HS.out] at hs1
      have a0 := Later.cell hl1 b0; have a1 := Later.cell hl1 b1; have a2 := Later.cell hl1 b2; have a3 := Later.cell hl1 b3; have a4 := Later.cell hl1 b4
      have a5 := Later.cell hl1 b5; have a6 := Later.cell hl1 b6; have a7 := Later.frozen hl1 (lt_of_cell b5) b7; have a8 := Later.frozen hl1 (lt_of_cell b6) b8
      clear hl1 b0 b1 b2 b3 b4 b5 b6 b7 b8
      go_wp2_with fail
      refine (check_any m k _ (by omega) (by omega) (by omega) (by omega)).mono ?_
      rintro e w2 ⟨rfl, hl2⟩
      rw [HC2.out]
      have hB2 := Later.below hl2 hB1 (by omega)
      have hs2 := Later.size hl2
      have c0 := Later.cell hl2 a0; have c1 := Later.cell hl2 a1; have c2 := Later.cell hl2 a2; have c3 := Later.cell hl2 a3; have c4 := Later.cell hl2 a4
      have c5 := Later.cell hl2 a5; have c6 := Later.cell hl2 a6; have c7 := Later.frozen hl2 (lt_of_cell a5) a7; have c8 := Later.frozen hl2 (lt_of_cell a6) a8
      clear hl2 a0 a1 a2 a3 a4 a5 a6 a7 a8
      go_wp2_with fail
      refine (clo_Div n d m k _ (by omega) (by omega) (by omega) (by omega) (by omega) (by omega) (by omega) (by omega)).mono ?_
      rintro e w3 ⟨rfl, hl3⟩
      have hB3 := Later.below hl3 hB2 (by omega)
      have hs3 := Later.size hl3
      have f5 := Later.cell hl3 c5; have f6 := Later.cell hl3 c6; have f7 := Later.frozen hl3 (lt_of_cell c5) c7; have f8 := Later.frozen hl3 (lt_of_cell c6) c8
      clear hl3 c0 c1 c2 c3 c4 c5 c6 c7 c8
      go_wp2_with fail
      refine (make_any (n * k) (d * m) _ (by omega) (by omega) (by omega) (by omega)).mono ?_
      rintro e w4 ⟨rfl, hl4⟩
      have hB4 := Later.below hl4 hB3 (by omega)
      have g5 := Later.cell hl4 f5; have g6 := Later.cell hl4 f6; have g7 := Later.frozen hl4 (lt_of_cell f5) f7; have g8 := Later.frozen hl4 (lt_of_cell f6) f8
      clear hl4 f5 f6 f7 f8
      go_wp2
      refine bodyPost_ret (v := .tuple #[.agg #[.int .i64 (mkN (n * k) (d * m)), .int .i64 (mkD (n * k) (d * m))], .int .i64 (mkE (n * k) (d * m))]) ?_ rfl ⟨by rw [H.out.1, H.out.2.1, H.out.2.2], Kin.Below.setC (Kin.Below.setC hB4 (by omega)) (by omega)⟩
      simp (maxDischargeDepth := 8) [results, Try.results44, go_sem, g5, g6]
set_option maxHeartbeats 1000000 in
theorem op_Div (n d m k : Int) (w : World) (hn : I64 n) (hd : I64 d) (hm : I64 m) (hk : I64 k) :
    Calls Try.prog 31 #[.agg #[.int .i64 n, .int .i64 d], .agg #[.int .i64 m, .int .i64 k]] w fun e w' => e = .returned (.tuple #[.agg #[.int .i64 (resN (okB n d && okB m k) (n * k) (d * m)), .int .i64 (resD (okB n d && okB m k) (n * k) (d * m))], .int .i64 (resE (okB n d && okB m k) (n * k) (d * m))]) ∧ Below w.heap.size w w' := by
  obtain ⟨W0, hW0⟩ : ∃ W0, (((w.alloc (Obj.cells #[Value.int IntKind.i64 n, Value.int IntKind.i64 d] 23)).alloc (Obj.cells #[Value.int IntKind.i64 m, Value.int IntKind.i64 k] 23)).alloc (Obj.cells #[Value.int IntKind.i64 0, Value.int IntKind.i64 0] 23)) = W0 := ⟨_, rfl⟩
  have hB0 : Below w.heap.size w W0 := by rw [← hW0]; exact Kin.Below.allocC (Kin.Below.allocC (Kin.Below.allocC (Below.refl w.heap.size w) (Nat.le_refl _)) (by simp)) (by simp; omega)
  have hs0 : W0.heap.size = w.heap.size + 3 := by rw [← hW0]; simp
  have b5 : W0.cell? ⟨w.heap.size + 1 + 1, 0, none⟩ = some (.int .i64 0) := by rw [← hW0]; simp [go_sem]
  have b6 : W0.cell? ⟨w.heap.size + 1 + 1, 1, none⟩ = some (.int .i64 0) := by rw [← hW0]; simp [go_sem]
  have b7 : W0.frozen? ⟨w.heap.size + 1 + 1, 0, none⟩ = false := by rw [← hW0]; simp [go_sem]
  have b8 : W0.frozen? ⟨w.heap.size + 1 + 1, 1, none⟩ = false := by rw [← hW0]; simp [go_sem]
  have HW := Lib.hid hW0; clear hW0
  have HS := Lib.hid hs0; clear hs0
  go_enter Try.func31, Try.ntmps31
  go_wp2_with fail
  rw [HW.out]
  refine (do_Div n d m k _ hn hd hm hk).mono ?_
  rintro e w4 ⟨rfl, hl4⟩
  have hB4 := Later.below hl4 hB0 (by rw [HS.out]; omega)
  have g5 := Later.cell hl4 b5; have g6 := Later.cell hl4 b6; have g7 := Later.frozen hl4 (lt_of_cell b5) b7; have g8 := Later.frozen hl4 (lt_of_cell b6) b8
  clear hl4 b5 b6 b7 b8
  go_wp2
  refine bodyPost_ret (v := .tuple #[.agg #[.int .i64 (resN (okB n d && okB m k) (n * k) (d * m)), .int .i64 (resD (okB n d && okB m k) (n * k) (d * m))], .int .i64 (resE (okB n d && okB m k) (n * k) (d * m))]) ?_ rfl ⟨rfl, Kin.Below.setC (Kin.Below.setC hB4 (by omega)) (by omega)⟩
  simp (maxDischargeDepth := 8) [results, Try.results31, go_sem, g5, g6]
end R12
end Go.Proofs

