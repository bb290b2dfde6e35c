/- Between walked. -/
import Derived.Test.YtakahkhofjpjoaaBe
import Derived.Test.YtakahkhofjpjoaaROp
import Derived.Laws.EntriesVeiled
namespace Go.Proofs
open Go.RowKit Go.Shelf Go.Kin
namespace R12
/-- the fuel that suffices -/
def fuelB : Nat := 2147483650
/-- what Between returns -/
def btX (n d m k : Int) : Int := if n < 0 ∧ 0 < m then 0 else if n < 0 then -(smp fuelB (-m) k (-n) d).1 else (smp fuelB n d m k).1
def btY (n d m k : Int) : Int := if n < 0 ∧ 0 < m then 1 else if n < 0 then (smp fuelB (-m) k (-n) d).2 else (smp fuelB n d m k).2
def btN (n d m k : Int) : Int := if okB n d && okB m k && decide (n * k < m * d) then mkN (btX n d m k) (btY n d m k) else 0
def btD (n d m k : Int) : Int := if okB n d && okB m k && decide (n * k < m * d) then mkD (btX n d m k) (btY n d m k) else 0
def btE (n d m k : Int) : Int := if okB n d && okB m k then (if n * k < m * d then mkE (btX n d m k) (btY n d m k) else 1) else 120
theorem mk01 : mkN 0 1 = 0 ∧ mkD 0 1 = 1 ∧ mkE 0 1 = 0 := by
  have hg : mkG 0 1 = 1 := by decide
  have hb : mkBig 0 1 = false := by unfold mkBig; rw [hg]; decide
  refine ⟨?_, ?_, ?_⟩
  · unfold mkN; rw [if_neg (by omega), hb, hg]; decide
  · unfold mkD; rw [if_neg (by omega), hb, hg]; decide
  · unfold mkE; rw [if_neg (by omega), hb]; rfl
theorem bt_bad {n d m k : Int} (h : (okB n d && okB m k) = false) : btN n d m k = 0 ∧ btD n d m k = 0 ∧ btE n d m k = 120 := by simp [btN, btD, btE, h]
theorem bt_arg {n d m k : Int} (h : (okB n d && okB m k) = true) (h' : ¬ n * k < m * d) : btN n d m k = 0 ∧ btD n d m k = 0 ∧ btE n d m k = 1 := by simp [btN, btD, btE, h, h']
theorem bt_zero {n d m k : Int} (h : (okB n d && okB m k) = true) (h' : n * k < m * d) (hn : n < 0) (hm : 0 < m) : btN n d m k = 0 ∧ btD n d m k = 1 ∧ btE n d m k = 0 := by
  have hx : btX n d m k = 0 := by simp [btX, hn, hm]
  have hy : btY n d m k = 1 := by simp [btY, hn, hm]
  have := mk01
  simp [btN, btD, btE, h, h', hx, hy, this]
theorem bt_neg {n d m k : Int} (h : (okB n d && okB m k) = true) (h' : n * k < m * d) (hn : n < 0) (hm : ¬ 0 < m) :
    btN n d m k = mkN (-(smp fuelB (-m) k (-n) d).1) (smp fuelB (-m) k (-n) d).2 ∧ btD n d m k = mkD (-(smp fuelB (-m) k (-n) d).1) (smp fuelB (-m) k (-n) d).2 ∧ btE n d m k = mkE (-(smp fuelB (-m) k (-n) d).1) (smp fuelB (-m) k (-n) d).2 := by
  have hx : btX n d m k = -(smp fuelB (-m) k (-n) d).1 := by unfold btX; rw [if_neg (by omega), if_pos hn]
  have hy : btY n d m k = (smp fuelB (-m) k (-n) d).2 := by unfold btY; rw [if_neg (by omega), if_pos hn]
  simp [btN, btD, btE, h, h', hx, hy]
theorem bt_pos {n d m k : Int} (h : (okB n d && okB m k) = true) (h' : n * k < m * d) (hn : ¬ n < 0) :
    btN n d m k = mkN (smp fuelB n d m k).1 (smp fuelB n d m k).2 ∧ btD n d m k = mkD (smp fuelB n d m k).1 (smp fuelB n d m k).2 ∧ btE n d m k = mkE (smp fuelB n d m k).1 (smp fuelB n d m k).2 := by
  have hx : btX n d m k = (smp fuelB n d m k).1 := by unfold btX; rw [if_neg (by omega), if_neg hn]
  have hy : btY n d m k = (smp fuelB n d m k).2 := by unfold btY; rw [if_neg (by omega), if_neg hn]
  simp [btN, btD, btE, h, h', hx, hy]
theorem fuel_ok {d k : Int} (h1 : d ≤ 1073741824) (h2 : k ≤ 1073741824) : d + k < (fuelB : Nat) := by unfold fuelB; omega
set_option maxHeartbeats 4000000 in
theorem between_any (n d m k : Int) (w : World) (hn : I64 n) (hd : I64 d) (hm : I64 m) (hk : I64 k) :
    Calls Try.prog 17 #[.agg #[.int .i64 n, .int .i64 d], .agg #[.int .i64 m, .int .i64 k]] w fun e w' => e = .returned (.tuple #[.agg #[.int .i64 (btN n d m k), .int .i64 (btD n d m k)], .int .i64 (btE n d m k)]) ∧ Below w.heap.size w w' := by
  obtain ⟨W0, hW0⟩ : ∃ W0, (((w.alloc (Obj.cells #[Value.int IntKind.i64 n, Value.int IntKind.i64 d] 23)).alloc (Obj.cells #[Value.int IntKind.i64 m, Value.int IntKind.i64 k] 23)).alloc (Obj.cells #[Value.int IntKind.i64 0, Value.int IntKind.i64 0] 23)) = W0 := ⟨_, rfl⟩
  have hB0 : Below w.heap.size w W0 := by rw [← hW0]; exact Kin.Below.allocC (Kin.Below.allocC (Kin.Below.allocC (Below.refl w.heap.size w) (Nat.le_refl _)) (by simp)) (by simp; omega)
  have hs0 : W0.heap.size = w.heap.size + 3 := by rw [← hW0]; simp
  have b1 : W0.cell? ⟨w.heap.size, 0, none⟩ = some (.int .i64 n) := by rw [← hW0]; simp [go_sem]
  have b2 : W0.cell? ⟨w.heap.size, 1, none⟩ = some (.int .i64 d) := by rw [← hW0]; simp [go_sem]
  have b3 : W0.cell? ⟨w.heap.size + 1, 0, none⟩ = some (.int .i64 m) := by rw [← hW0]; simp [go_sem]
  have b4 : W0.cell? ⟨w.heap.size + 1, 1, none⟩ = some (.int .i64 k) := by rw [← hW0]; simp [go_sem]
  have b5 : W0.cell? ⟨w.heap.size + 1 + 1, 0, none⟩ = some (.int .i64 0) := by rw [← hW0]; simp [go_sem]
  have b6 : W0.cell? ⟨w.heap.size + 1 + 1, 1, none⟩ = some (.int .i64 0) := by rw [← hW0]; simp [go_sem]
  have b7 : W0.frozen? ⟨w.heap.size + 1 + 1, 0, none⟩ = false := by rw [← hW0]; simp [go_sem]
  have b8 : W0.frozen? ⟨w.heap.size + 1 + 1, 1, none⟩ = false := by rw [← hW0]; simp [go_sem]
  have HW := Lib.hid hW0; clear hW0
  have HS := Lib.hid hs0; clear hs0
  cases hb : (okB n d && okB m k)
  · have H := Lib.hid (bt_bad hb)
    have HV := Lib.hid (cmpV_false hb); clear hb
    go_enter Try.func17, Try.ntmps17
    go_wp2_with fail
    rw [HW.out]
    refine (cmp_any n d m k _ hn hd hm hk).mono ?_
    rintro e w1 ⟨rfl, hl1⟩
    rw [HV.out.1, HV.out.2]
    have hB1 := Later.below hl1 hB0 (by rw [HS.out]; omega)
    have hs1 := Later.size hl1
    rw [HS.out] at hs1
    have hs2 : w.heap.size + 1 + 1 < w1.heap.size := by omega
    have hs3 : w.heap.size + 1 < w1.heap.size := by omega
    have hs4 : w.heap.size < w1.heap.size := by omega
    have a1 := Later.cell hl1 b1; have a2 := Later.cell hl1 b2; have a3 := Later.cell hl1 b3; have a4 := Later.cell hl1 b4
    have a5 := Later.cell hl1 b5; have a6 := Later.cell hl1 b6; have a7 := Later.frozen hl1 (lt_of_cell b5) b7; have a8 := Later.frozen hl1 (lt_of_cell b6) b8
    clear hl1 b1 b2 b3 b4 b5 b6 b7 b8
    go_wp2
    refine bodyPost_ret (v := .tuple #[.agg #[.int .i64 0, .int .i64 0], .int .i64 120]) ?_ rfl ⟨by rw [H.out.1, H.out.2.1, H.out.2.2], Kin.Below.setC (Kin.Below.setC hB1 (by omega)) (by omega)⟩
    simp (maxDischargeDepth := 8) [results, Try.results17, go_sem, a5, a6]
  · have hv := cmpV_true hb
    have hb' := hb
    rw [Bool.and_eq_true] at hb'
    obtain ⟨v1, v2, v3, v4, -⟩ := okB_iff.1 hb'.1; obtain ⟨u1, u2, u3, u4, -⟩ := okB_iff.1 hb'.2
    clear hb'
    by_cases hlt : n * k < m * d
    · have HV : Hid (cmpV n d m k = -1 ∧ bothE n d m k = 0) := Lib.hid ⟨by rw [hv.1]; simp [cmpI, hlt], hv.2⟩
      clear hv
      by_cases hn0 : n < 0
      · by_cases hm0 : 0 < m
        · have H := Lib.hid (bt_zero hb hlt hn0 hm0)
          clear hb hlt
          go_enter Try.func17, Try.ntmps17
          go_wp2_with fail
          rw [HW.out]
          refine (cmp_any n d m k _ hn hd hm hk).mono ?_
          rintro e w1 ⟨rfl, hl1⟩
          rw [HV.out.1, HV.out.2]
          have hB1 := Later.below hl1 hB0 (by rw [HS.out]; omega)
          have hs1 := Later.size hl1
          rw [HS.out] at hs1
          have hs2 : w.heap.size + 1 + 1 < w1.heap.size := by omega
          have hs3 : w.heap.size + 1 < w1.heap.size := by omega
          have hs4 : w.heap.size < w1.heap.size := by omega
          have a1 := Later.cell hl1 b1; have a2 := Later.cell hl1 b2; have a3 := Later.cell hl1 b3; have a4 := Later.cell hl1 b4
          have a5 := Later.cell hl1 b5; have a6 := Later.cell hl1 b6; have a7 := Later.frozen hl1 (lt_of_cell b5) b7; have a8 := Later.frozen hl1 (lt_of_cell b6) b8
          clear hl1 b1 b2 b3 b4 b5 b6 b7 b8
          go_wp2
          refine bodyPost_ret (v := .tuple #[.agg #[.int .i64 0, .int .i64 1], .int .i64 0]) ?_ rfl ⟨by rw [H.out.1, H.out.2.1, H.out.2.2], Kin.Below.allocC (Kin.Below.setC (Kin.Below.setC hB1 (by omega)) (by omega)) (by simp [World.setCell]; omega)⟩
          simp (maxDischargeDepth := 8) [results, Try.results17, go_sem, a5, a6, hs2]
        · have H := Lib.hid (bt_neg hb hlt hn0 hm0)
          have HI : Hid (Sin (-m) k (-n) d) := Lib.hid ⟨by omega, by omega, by omega, by rw [Int.neg_mul, Int.neg_mul]; omega, by omega, by omega, by omega, by omega⟩
          clear hb hlt
          obtain ⟨r1, r2, r3, r4⟩ := smp_bd fuelB HI.out (fuel_ok u2 v2)
          go_enter Try.func17, Try.ntmps17
          go_wp2_with fail
          rw [HW.out]
          refine (cmp_any n d m k _ hn hd hm hk).mono ?_
          rintro e w1 ⟨rfl, hl1⟩
          rw [HV.out.1, HV.out.2]
          have hB1 := Later.below hl1 hB0 (by rw [HS.out]; omega)
          have hs1 := Later.size hl1
          rw [HS.out] at hs1
          have hs2 : w.heap.size + 1 + 1 < w1.heap.size := by omega
          have hs3 : w.heap.size + 1 < w1.heap.size := by omega
          have hs4 : w.heap.size < w1.heap.size := by omega
          have a1 := Later.cell hl1 b1; have a2 := Later.cell hl1 b2; have a3 := Later.cell hl1 b3; have a4 := Later.cell hl1 b4
          have a5 := Later.cell hl1 b5; have a6 := Later.cell hl1 b6; have a7 := Later.frozen hl1 (lt_of_cell b5) b7; have a8 := Later.frozen hl1 (lt_of_cell b6) b8
          clear hl1 b1 b2 b3 b4 b5 b6 b7 b8
          go_wp2_with fail
          obtain ⟨w2, hw2⟩ : ∃ w2, w1.alloc (Obj.cells #[Value.func (Fn.func 38) #[] #[Value.pointer (some { block := w1.heap.size, off := 0 })]] 50) = w2 := ⟨_, rfl⟩
          rw [hw2]
          have hB2 : Below w.heap.size w w2 := by rw [← hw2]; exact Kin.Below.allocC hB1 (by omega)
          have hl2 : Later w1 w2 := by rw [← hw2]; exact (Below.refl _ _).alloc (Nat.le_refl _) _
          have hcl : w2.cell? ⟨w1.heap.size, 0, none⟩ = some (.func (.func 38) #[] #[.pointer (some ⟨w1.heap.size, 0, none⟩)]) := by rw [← hw2]; simp [go_sem]
          have hs5 : w1.heap.size + 1 = w2.heap.size := by rw [← hw2]; simp
          clear hw2
          have c5 := Later.cell hl2 a5; have c6 := Later.cell hl2 a6; have c7 := Later.frozen hl2 (lt_of_cell a5) a7; have c8 := Later.frozen hl2 (lt_of_cell a6) a8
          clear hl2 a1 a2 a3 a4 a5 a6 a7 a8 hB1
          refine (simp_any w1.heap.size fuelB (-m) k (-n) d w2 HI.out (fuel_ok u2 v2) hcl).mono ?_
          rintro e w' ⟨rfl, rfl⟩
          go_wp2_with fail
          refine (make_any (-(smp fuelB (-m) k (-n) d).1) (smp fuelB (-m) k (-n) d).2 _ (by omega) (by omega) (by omega) (by omega)).mono ?_
          rintro e w3 ⟨rfl, hl3⟩
          have hB3 := Later.below hl3 hB2 (by omega)
          have d5 := Later.cell hl3 c5; have d6 := Later.cell hl3 c6; have d7 := Later.frozen hl3 (lt_of_cell c5) c7; have d8 := Later.frozen hl3 (lt_of_cell c6) c8
          clear hl3 c5 c6 c7 c8 hB2 hcl
          go_wp2
          refine bodyPost_ret (v := .tuple #[.agg #[.int .i64 (mkN (-(smp fuelB (-m) k (-n) d).1) (smp fuelB (-m) k (-n) d).2), .int .i64 (mkD (-(smp fuelB (-m) k (-n) d).1) (smp fuelB (-m) k (-n) d).2)], .int .i64 (mkE (-(smp fuelB (-m) k (-n) d).1) (smp fuelB (-m) k (-n) d).2)]) ?_ rfl ⟨by rw [H.out.1, H.out.2.1, H.out.2.2], Kin.Below.setC (Kin.Below.setC hB3 (by omega)) (by omega)⟩
          simp (maxDischargeDepth := 8) [results, Try.results17, go_sem, d5, d6]
      · have H := Lib.hid (bt_pos hb hlt hn0)
        have HI : Hid (Sin n d m k) := Lib.hid ⟨by omega, by omega, by omega, hlt, by omega, by omega, by omega, by omega⟩
        clear hb hlt
        obtain ⟨r1, r2, r3, r4⟩ := smp_bd fuelB HI.out (fuel_ok v2 u2)
        go_enter Try.func17, Try.ntmps17
        go_wp2_with fail
        rw [HW.out]
        refine (cmp_any n d m k _ hn hd hm hk).mono ?_
        rintro e w1 ⟨rfl, hl1⟩
        rw [HV.out.1, HV.out.2]
        have hB1 := Later.below hl1 hB0 (by rw [HS.out]; omega)
        have hs1 := Later.size hl1
        rw [HS.out] at hs1
        have hs2 : w.heap.size + 1 + 1 < w1.heap.size := by omega
        have hs3 : w.heap.size + 1 < w1.heap.size := by omega
        have hs4 : w.heap.size < w1.heap.size := by omega
        have a1 := Later.cell hl1 b1; have a2 := Later.cell hl1 b2; have a3 := Later.cell hl1 b3; have a4 := Later.cell hl1 b4
        have a5 := Later.cell hl1 b5; have a6 := Later.cell hl1 b6; have a7 := Later.frozen hl1 (lt_of_cell b5) b7; have a8 := Later.frozen hl1 (lt_of_cell b6) b8
        clear hl1 b1 b2 b3 b4 b5 b6 b7 b8
        go_wp2_with fail
        obtain ⟨w2, hw2⟩ : ∃ w2, w1.alloc (Obj.cells #[Value.func (Fn.func 38) #[] #[Value.pointer (some { block := w1.heap.size, off := 0 })]] 50) = w2 := ⟨_, rfl⟩
        rw [hw2]
        have hB2 : Below w.heap.size w w2 := by rw [← hw2]; exact Kin.Below.allocC hB1 (by omega)
        have hl2 : Later w1 w2 := by rw [← hw2]; exact (Below.refl _ _).alloc (Nat.le_refl _) _
        have hcl : w2.cell? ⟨w1.heap.size, 0, none⟩ = some (.func (.func 38) #[] #[.pointer (some ⟨w1.heap.size, 0, none⟩)]) := by rw [← hw2]; simp [go_sem]
        have hs5 : w1.heap.size + 1 = w2.heap.size := by rw [← hw2]; simp
        clear hw2
        have c5 := Later.cell hl2 a5; have c6 := Later.cell hl2 a6; have c7 := Later.frozen hl2 (lt_of_cell a5) a7; have c8 := Later.frozen hl2 (lt_of_cell a6) a8
        clear hl2 a1 a2 a3 a4 a5 a6 a7 a8 hB1
        refine (simp_any w1.heap.size fuelB n d m k w2 HI.out (fuel_ok v2 u2) hcl).mono ?_
        rintro e w' ⟨rfl, rfl⟩
        go_wp2_with fail
        refine (make_any (smp fuelB n d m k).1 (smp fuelB n d m k).2 _ (by omega) (by omega) (by omega) (by omega)).mono ?_
        rintro e w3 ⟨rfl, hl3⟩
        have hB3 := Later.below hl3 hB2 (by omega)
        have d5 := Later.cell hl3 c5; have d6 := Later.cell hl3 c6; have d7 := Later.frozen hl3 (lt_of_cell c5) c7; have d8 := Later.frozen hl3 (lt_of_cell c6) c8
        clear hl3 c5 c6 c7 c8 hB2 hcl
        go_wp2
        refine bodyPost_ret (v := .tuple #[.agg #[.int .i64 (mkN (smp fuelB n d m k).1 (smp fuelB n d m k).2), .int .i64 (mkD (smp fuelB n d m k).1 (smp fuelB n d m k).2)], .int .i64 (mkE (smp fuelB n d m k).1 (smp fuelB n d m k).2)]) ?_ rfl ⟨by rw [H.out.1, H.out.2.1, H.out.2.2], Kin.Below.setC (Kin.Below.setC hB3 (by omega)) (by omega)⟩
        simp (maxDischargeDepth := 8) [results, Try.results17, go_sem, d5, d6]
    · have hv1 : cmpI (n * k) (m * d) = 0 ∨ cmpI (n * k) (m * d) = 1 := by
        unfold cmpI; rw [if_neg hlt]; split <;> simp
      have H := Lib.hid (bt_arg hb hlt)
      clear hb hlt
      rcases hv1 with hv1 | hv1
      all_goals
        have HV : Hid (cmpV n d m k = _ ∧ bothE n d m k = 0) := Lib.hid ⟨hv.1.trans hv1, hv.2⟩
        clear hv hv1
        go_enter Try.func17, Try.ntmps17
        go_wp2_with fail
        rw [HW.out]
        refine (cmp_any n d m k _ hn hd hm hk).mono ?_
        rintro e w1 ⟨rfl, hl1⟩
        rw [HV.out.1, HV.out.2]
        have hB1 := Later.below hl1 hB0 (by rw [HS.out]; omega)
        have hs1 := Later.size hl1
        rw [HS.out] at hs1
        have hs2 : w.heap.size + 1 + 1 < w1.heap.size := by omega
        have hs3 : w.heap.size + 1 < w1.heap.size := by omega
        have hs4 : w.heap.size < w1.heap.size := by omega
        have a1 := Later.cell hl1 b1; have a2 := Later.cell hl1 b2; have a3 := Later.cell hl1 b3; have a4 := Later.cell hl1 b4
        have a5 := Later.cell hl1 b5; have a6 := Later.cell hl1 b6; have a7 := Later.frozen hl1 (lt_of_cell b5) b7; have a8 := Later.frozen hl1 (lt_of_cell b6) b8
        clear hl1 b1 b2 b3 b4 b5 b6 b7 b8
        go_wp2
        refine bodyPost_ret (v := .tuple #[.agg #[.int .i64 0, .int .i64 0], .int .i64 1]) ?_ rfl ⟨by rw [H.out.1, H.out.2.1, H.out.2.2], Kin.Below.setC (Kin.Below.setC hB1 (by omega)) (by omega)⟩
        simp (maxDischargeDepth := 8) [results, Try.results17, go_sem, a5, a6]
end R12
end Go.Proofs
