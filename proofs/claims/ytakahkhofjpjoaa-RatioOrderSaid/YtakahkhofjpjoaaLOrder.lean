/- RatioOrder walked. -/
import Derived.Test.YtakahkhofjpjoaaOpV
namespace Go.Proofs
open Go.RowKit Go.Shelf Go.Kin
namespace R12
set_option maxRecDepth 100000 in
set_option maxHeartbeats 8000000 in
theorem ratioOrder_any (n m k d f g : Int) (w : World) (n1 : -32768 ≤ n) (n2 : n ≤ 32767) (d1 : 0 ≤ d) (d2 : d ≤ 65535) (m1 : -32768 ≤ m) (m2 : m ≤ 32767) (f1 : 0 ≤ f) (f2 : f ≤ 65535) (k1 : -32768 ≤ k) (k2 : k ≤ 32767) (g1 : 0 ≤ g) (g2 : g ≤ 65535) :
    Calls Try.prog 7 #[.int .i16 n, .int .i16 m, .int .i16 k, .int .u16 d, .int .u16 f, .int .u16 g] w fun e w' => e = .returned (.bool true) ∧ Below w.heap.size w w' := by
  obtain ⟨a1, a2, hNa, hDa, va, ea⟩ := few_val n d
  have HNa := Lib.hid hNa; have HDa := Lib.hid hDa; clear hNa hDa
  obtain ⟨b1, b2, hNb, hDb, vb, eb⟩ := few_val m f
  have HNb := Lib.hid hNb; have HDb := Lib.hid hDb; clear hNb hDb
  obtain ⟨c1, c2, hNc, hDc, vc, ec⟩ := few_val k g
  have HNc := Lib.hid hNc; have HDc := Lib.hid hDc; clear hNc hDc
  obtain ⟨S, T, U, x1, x2, y1, y2, z1, z2, v1, v2, F0⟩ := ord_law va vb vc
  have hnum := ord_num (X1 := fwX n) (Y1 := fwY d) (X2 := fwX m) (Y2 := fwY f) (by have := va.pos; omega) (by have := vb.pos; omega) (by have := fwY_bd d; omega) (by have := fwY_bd f; omega) ea eb
  rw [F0.ab] at hnum
  have hnc := cmpI_cases (fwX n * fwY f) (fwX m * fwY d)
  rw [hnum] at hnc
  obtain ⟨q1, q2⟩ := fwX_bd n; obtain ⟨q3, q4⟩ := fwX_bd m; obtain ⟨q5, q6⟩ := fwY_bd d; obtain ⟨q7, q8⟩ := fwY_bd f
  obtain ⟨q9, q10⟩ := mul30 (a := fwX n) (b := fwY f) (by omega) (by omega) (by omega) (by omega)
  obtain ⟨q11, q12⟩ := mul30 (a := fwX m) (b := fwY d) (by omega) (by omega) (by omega) (by omega)
  have hx1 : n.tmod 512 = fwX n := rfl
  have hx2 : m.tmod 512 = fwX m := rfl
  have hy1 : 1 + d % 1024 = fwY d := rfl
  have hy2 : 1 + f % 1024 = fwY f := rfl
  obtain ⟨s1, s2⟩ := F0.s1; obtain ⟨t1, t2⟩ := F0.t1; obtain ⟨u1, u2⟩ := F0.u1
  have hsab := F0.eq
  have htr := F0.tr
  have F := Lib.hid F0; clear F0 ea eb ec hnum
  have va' := Lib.hid va; clear va; have va := va'; clear va'
  have vb' := Lib.hid vb; clear vb; have vb := vb'; clear vb'
  have vc' := Lib.hid vc; clear vc; have vc := vc'; clear vc'
  have HEQ := Lib.hid hsab; clear hsab
  have HTR := Lib.hid htr; clear htr
  have HNC := Lib.hid hnc; clear hnc
  have hB_0 := Below.refl w.heap.size w
  go_enter Try.func7, Try.ntmps7
  go_wp2_with fail
  refine (sane_any _).mono ?_
  rintro e w1 ⟨rfl, hl_1⟩
  have hB_1 := Later.below hl_1 hB_0 (by omega)
  have hz_1 := Later.size hl_1
  clear hl_1  hB_0
  go_wp2_with fail
  refine (fewv HNa.out HDa.out n1 n2 d1 d2 _).mono ?_
  rintro e w2 ⟨rfl, hl_2⟩
  have hB_2 := Later.below hl_2 hB_1 (by omega)
  have hz_2 := Later.size hl_2
  clear hl_2  hB_1
  go_wp2_with fail
  obtain ⟨w3, hw_3⟩ : ∃ w3, (w2.alloc (Obj.cells #[Value.int IntKind.i64 a1, Value.int IntKind.i64 a2] 23)) = w3 := ⟨_, rfl⟩
  rw [hw_3]
  have hl_3 : Later w2 w3 := by rw [← hw_3]; exact (Kin.Below.allocC (Below.refl _ _) (Nat.le_refl _))
  have a0_3 : w3.cell? ⟨w2.heap.size, 0, none⟩ = some (.int .i64 a1) := by rw [← hw_3]; simp [go_sem]
  have a1_3 : w3.cell? ⟨w2.heap.size, 1, none⟩ = some (.int .i64 a2) := by rw [← hw_3]; simp [go_sem]
  have hy_3 : w2.heap.size + 1 = w3.heap.size := by rw [← hw_3]; simp
  clear hw_3
  have hB_3 := Later.below hl_3 hB_2 (by omega)
  have hz_3 := Later.size hl_3
  clear hl_3  hB_2
  refine (fewv HNb.out HDb.out m1 m2 f1 f2 _).mono ?_
  rintro e w4 ⟨rfl, hl_4⟩
  have a0_4 := Later.cell hl_4 a0_3
  have a1_4 := Later.cell hl_4 a1_3
  have lt0_4 : w2.heap.size < w4.heap.size := lt_of_cell a0_4
  have hB_4 := Later.below hl_4 hB_3 (by omega)
  have hz_4 := Later.size hl_4
  clear hl_4 a0_3 a1_3 hB_3
  go_wp2_with fail
  obtain ⟨w5, hw_5⟩ : ∃ w5, (w4.alloc (Obj.cells #[Value.int IntKind.i64 b1, Value.int IntKind.i64 b2] 23)) = w5 := ⟨_, rfl⟩
  rw [hw_5]
  have hl_5 : Later w4 w5 := by rw [← hw_5]; exact (Kin.Below.allocC (Below.refl _ _) (Nat.le_refl _))
  have b0_5 : w5.cell? ⟨w4.heap.size, 0, none⟩ = some (.int .i64 b1) := by rw [← hw_5]; simp [go_sem]
  have b1_5 : w5.cell? ⟨w4.heap.size, 1, none⟩ = some (.int .i64 b2) := by rw [← hw_5]; simp [go_sem]
  have hy_5 : w4.heap.size + 1 = w5.heap.size := by rw [← hw_5]; simp
  clear hw_5
  have a0_5 := Later.cell hl_5 a0_4
  have a1_5 := Later.cell hl_5 a1_4
  clear lt0_4
  have lt0_5 : w2.heap.size < w5.heap.size := lt_of_cell a0_5
  have hB_5 := Later.below hl_5 hB_4 (by omega)
  have hz_5 := Later.size hl_5
  clear hl_5 a0_4 a1_4 hB_4
  refine (fewv HNc.out HDc.out k1 k2 g1 g2 _).mono ?_
  rintro e w6 ⟨rfl, hl_6⟩
  have a0_6 := Later.cell hl_6 a0_5
  have a1_6 := Later.cell hl_6 a1_5
  have b0_6 := Later.cell hl_6 b0_5
  have b1_6 := Later.cell hl_6 b1_5
  clear lt0_5
  have lt0_6 : w2.heap.size < w6.heap.size := lt_of_cell a0_6
  have lt1_6 : w4.heap.size < w6.heap.size := lt_of_cell b0_6
  have hB_6 := Later.below hl_6 hB_5 (by omega)
  have hz_6 := Later.size hl_6
  clear hl_6 a0_5 a1_5 b0_5 b1_5 hB_5
  go_wp2_with fail
  obtain ⟨w7, hw_7⟩ : ∃ w7, (w6.alloc (Obj.cells #[Value.int IntKind.i64 c1, Value.int IntKind.i64 c2] 23)) = w7 := ⟨_, rfl⟩
  rw [hw_7]
  have hl_7 : Later w6 w7 := by rw [← hw_7]; exact (Kin.Below.allocC (Below.refl _ _) (Nat.le_refl _))
  have c0_7 : w7.cell? ⟨w6.heap.size, 0, none⟩ = some (.int .i64 c1) := by rw [← hw_7]; simp [go_sem]
  have c1_7 : w7.cell? ⟨w6.heap.size, 1, none⟩ = some (.int .i64 c2) := by rw [← hw_7]; simp [go_sem]
  have hy_7 : w6.heap.size + 1 = w7.heap.size := by rw [← hw_7]; simp
  clear hw_7
  have a0_7 := Later.cell hl_7 a0_6
  have a1_7 := Later.cell hl_7 a1_6
  have b0_7 := Later.cell hl_7 b0_6
  have b1_7 := Later.cell hl_7 b1_6
  clear lt0_6
  clear lt1_6
  have lt0_7 : w2.heap.size < w7.heap.size := lt_of_cell a0_7
  have lt1_7 : w4.heap.size < w7.heap.size := lt_of_cell b0_7
  have hB_7 := Later.below hl_7 hB_6 (by omega)
  have hz_7 := Later.size hl_7
  clear hl_7 a0_6 a1_6 b0_6 b1_6 hB_6
  refine (cmpv va.out.ok vb.out.ok F.out.ab _).mono ?_
  rintro e w8 ⟨rfl, hl_8⟩
  have a0_8 := Later.cell hl_8 a0_7
  have a1_8 := Later.cell hl_8 a1_7
  have b0_8 := Later.cell hl_8 b0_7
  have b1_8 := Later.cell hl_8 b1_7
  have c0_8 := Later.cell hl_8 c0_7
  have c1_8 := Later.cell hl_8 c1_7
  clear lt0_7
  clear lt1_7
  have lt0_8 : w2.heap.size < w8.heap.size := lt_of_cell a0_8
  have lt1_8 : w4.heap.size < w8.heap.size := lt_of_cell b0_8
  have lt2_8 : w6.heap.size < w8.heap.size := lt_of_cell c0_8
  have hB_8 := Later.below hl_8 hB_7 (by omega)
  have hz_8 := Later.size hl_8
  clear hl_8 a0_7 a1_7 b0_7 b1_7 c0_7 c1_7 hB_7
  go_wp2_with fail
  refine (cmpv vb.out.ok va.out.ok F.out.ba _).mono ?_
  rintro e w9 ⟨rfl, hl_9⟩
  have a0_9 := Later.cell hl_9 a0_8
  have a1_9 := Later.cell hl_9 a1_8
  have b0_9 := Later.cell hl_9 b0_8
  have b1_9 := Later.cell hl_9 b1_8
  have c0_9 := Later.cell hl_9 c0_8
  have c1_9 := Later.cell hl_9 c1_8
  clear lt0_8
  clear lt1_8
  clear lt2_8
  have lt0_9 : w2.heap.size < w9.heap.size := lt_of_cell a0_9
  have lt1_9 : w4.heap.size < w9.heap.size := lt_of_cell b0_9
  have lt2_9 : w6.heap.size < w9.heap.size := lt_of_cell c0_9
  have hB_9 := Later.below hl_9 hB_8 (by omega)
  have hz_9 := Later.size hl_9
  clear hl_9 a0_8 a1_8 b0_8 b1_8 c0_8 c1_8 hB_8
  go_wp2_with fail
  refine (cmpv vb.out.ok vc.out.ok F.out.bc _).mono ?_
  rintro e w10 ⟨rfl, hl_10⟩
  have a0_10 := Later.cell hl_10 a0_9
  have a1_10 := Later.cell hl_10 a1_9
  have b0_10 := Later.cell hl_10 b0_9
  have b1_10 := Later.cell hl_10 b1_9
  have c0_10 := Later.cell hl_10 c0_9
  have c1_10 := Later.cell hl_10 c1_9
  clear lt0_9
  clear lt1_9
  clear lt2_9
  have lt0_10 : w2.heap.size < w10.heap.size := lt_of_cell a0_10
  have lt1_10 : w4.heap.size < w10.heap.size := lt_of_cell b0_10
  have lt2_10 : w6.heap.size < w10.heap.size := lt_of_cell c0_10
  have hB_10 := Later.below hl_10 hB_9 (by omega)
  have hz_10 := Later.size hl_10
  clear hl_10 a0_9 a1_9 b0_9 b1_9 c0_9 c1_9 hB_9
  go_wp2_with fail
  refine (cmpv va.out.ok vc.out.ok F.out.ac _).mono ?_
  rintro e w11 ⟨rfl, hl_11⟩
  have a0_11 := Later.cell hl_11 a0_10
  have a1_11 := Later.cell hl_11 a1_10
  have b0_11 := Later.cell hl_11 b0_10
  have b1_11 := Later.cell hl_11 b1_10
  have c0_11 := Later.cell hl_11 c0_10
  have c1_11 := Later.cell hl_11 c1_10
  clear lt0_10
  clear lt1_10
  clear lt2_10
  have lt0_11 : w2.heap.size < w11.heap.size := lt_of_cell a0_11
  have lt1_11 : w4.heap.size < w11.heap.size := lt_of_cell b0_11
  have lt2_11 : w6.heap.size < w11.heap.size := lt_of_cell c0_11
  have hB_11 := Later.below hl_11 hB_10 (by omega)
  have hz_11 := Later.size hl_11
  clear hl_11 a0_10 a1_10 b0_10 b1_10 c0_10 c1_10 hB_10
  go_wp2_with fail
  obtain ⟨w12, hw_12⟩ : ∃ w12, (w11.alloc (Obj.cells #[Value.int IntKind.i64 0, Value.int IntKind.i64 0, Value.int IntKind.i64 0, Value.int IntKind.i64 0] 25)) = w12 := ⟨_, rfl⟩
  rw [hw_12]
  have hl_12 : Later w11 w12 := by rw [← hw_12]; exact (Kin.Below.allocC (Below.refl _ _) (Nat.le_refl _))
  have l0_12 : w12.cell? ⟨w11.heap.size, 0, none⟩ = some (.int .i64 0) := by rw [← hw_12]; simp [go_sem]
  have l1_12 : w12.cell? ⟨w11.heap.size, 1, none⟩ = some (.int .i64 0) := by rw [← hw_12]; simp [go_sem]
  have l2_12 : w12.cell? ⟨w11.heap.size, 2, none⟩ = some (.int .i64 0) := by rw [← hw_12]; simp [go_sem]
  have l3_12 : w12.cell? ⟨w11.heap.size, 3, none⟩ = some (.int .i64 0) := by rw [← hw_12]; simp [go_sem]
  have hy_12 : w11.heap.size + 1 = w12.heap.size := by rw [← hw_12]; simp
  clear hw_12
  have a0_12 := Later.cell hl_12 a0_11
  have a1_12 := Later.cell hl_12 a1_11
  have b0_12 := Later.cell hl_12 b0_11
  have b1_12 := Later.cell hl_12 b1_11
  have c0_12 := Later.cell hl_12 c0_11
  have c1_12 := Later.cell hl_12 c1_11
  clear lt0_11
  clear lt1_11
  clear lt2_11
  have lt0_12 : w2.heap.size < w12.heap.size := lt_of_cell a0_12
  have lt1_12 : w4.heap.size < w12.heap.size := lt_of_cell b0_12
  have lt2_12 : w6.heap.size < w12.heap.size := lt_of_cell c0_12
  have hB_12 := Later.below hl_12 hB_11 (by omega)
  have hz_12 := Later.size hl_12
  clear hl_12 a0_11 a1_11 b0_11 b1_11 c0_11 c1_11 hB_11
  refine (all_zero _ 4 4 _ (by omega) (fun i hi => by match i, hi with | 0, _ => assumption | 1, _ => assumption | 2, _ => assumption | 3, _ => assumption)).mono ?_
  rintro e w' ⟨rfl, rfl⟩
  clear l0_12
  clear l1_12
  clear l2_12
  clear l3_12
  have hcs : (a1 = b1 ∧ a2 = b2) ∨ (a1 = b1 ∧ ¬ a2 = b2) ∨ ¬ a1 = b1 := by omega
  rcases HNC.out with ⟨hl, rfl⟩ | ⟨hl, rfl⟩ | ⟨hl, rfl⟩ <;> rcases hcs with ⟨rfl, rfl⟩ | ⟨rfl, hne⟩ | hne
  all_goals try (exfalso; have := HEQ.out; omega)
  all_goals by_cases hT : T ≤ 0
  all_goals
    first
      | (have g1 : decide (fwX n * fwY f < fwX m * fwY d) = true := (by simp; omega); have g2 : decide (fwX m * fwY d < fwX n * fwY f) = false := (by simp; omega))
      | (have g1 : decide (fwX n * fwY f < fwX m * fwY d) = false := (by simp; omega); have g2 : decide (fwX m * fwY d < fwX n * fwY f) = true := (by simp; omega))
      | (have g1 : decide (fwX n * fwY f < fwX m * fwY d) = false := (by simp; omega); have g2 : decide (fwX m * fwY d < fwX n * fwY f) = false := (by simp; omega))
    try have hU : U ≤ 0 := HTR.out (by omega) hT
    go_wp2_with fail
    refine (opv_Add va.out.ok vc.out.ok F.out.x _).mono ?_
    rintro e w13 ⟨rfl, hl_13⟩
    have a0_13 := Later.cell hl_13 a0_12
    have a1_13 := Later.cell hl_13 a1_12
    have b0_13 := Later.cell hl_13 b0_12
    have b1_13 := Later.cell hl_13 b1_12
    have c0_13 := Later.cell hl_13 c0_12
    have c1_13 := Later.cell hl_13 c1_12
    clear lt0_12
    clear lt1_12
    clear lt2_12
    have lt0_13 : w2.heap.size < w13.heap.size := lt_of_cell a0_13
    have lt1_13 : w4.heap.size < w13.heap.size := lt_of_cell b0_13
    have lt2_13 : w6.heap.size < w13.heap.size := lt_of_cell c0_13
    have hB_13 := Later.below hl_13 hB_12 (by omega)
    have hz_13 := Later.size hl_13
    clear hl_13 a0_12 a1_12 b0_12 b1_12 c0_12 c1_12 hB_12
    go_wp2_with fail
    obtain ⟨w14, hw_14⟩ : ∃ w14, (w13.alloc (Obj.cells #[Value.int IntKind.i64 x1, Value.int IntKind.i64 x2] 23)) = w14 := ⟨_, rfl⟩
    rw [hw_14]
    have hl_14 : Later w13 w14 := by rw [← hw_14]; exact (Kin.Below.allocC (Below.refl _ _) (Nat.le_refl _))
    have x0_14 : w14.cell? ⟨w13.heap.size, 0, none⟩ = some (.int .i64 x1) := by rw [← hw_14]; simp [go_sem]
    have zx0_14 : w14.frozen? ⟨w13.heap.size, 0, none⟩ = false := by rw [← hw_14]; simp [go_sem]
    have x1_14 : w14.cell? ⟨w13.heap.size, 1, none⟩ = some (.int .i64 x2) := by rw [← hw_14]; simp [go_sem]
    have zx1_14 : w14.frozen? ⟨w13.heap.size, 1, none⟩ = false := by rw [← hw_14]; simp [go_sem]
    have hy_14 : w13.heap.size + 1 = w14.heap.size := by rw [← hw_14]; simp
    clear hw_14
    have a0_14 := Later.cell hl_14 a0_13
    have a1_14 := Later.cell hl_14 a1_13
    have b0_14 := Later.cell hl_14 b0_13
    have b1_14 := Later.cell hl_14 b1_13
    have c0_14 := Later.cell hl_14 c0_13
    have c1_14 := Later.cell hl_14 c1_13
    clear lt0_13
    clear lt1_13
    clear lt2_13
    have lt0_14 : w2.heap.size < w14.heap.size := lt_of_cell a0_14
    have lt1_14 : w4.heap.size < w14.heap.size := lt_of_cell b0_14
    have lt2_14 : w6.heap.size < w14.heap.size := lt_of_cell c0_14
    have hB_14 := Later.below hl_14 hB_13 (by omega)
    have hz_14 := Later.size hl_14
    clear hl_14 a0_13 a1_13 b0_13 b1_13 c0_13 c1_13 hB_13
    refine (opv_Add vb.out.ok vc.out.ok F.out.y _).mono ?_
    rintro e w15 ⟨rfl, hl_15⟩
    have a0_15 := Later.cell hl_15 a0_14
    have a1_15 := Later.cell hl_15 a1_14
    have b0_15 := Later.cell hl_15 b0_14
    have b1_15 := Later.cell hl_15 b1_14
    have c0_15 := Later.cell hl_15 c0_14
    have c1_15 := Later.cell hl_15 c1_14
    have x0_15 := Later.cell hl_15 x0_14
    have x1_15 := Later.cell hl_15 x1_14
    have zx0_15 := Later.frozen hl_15 (lt_of_cell x0_14) zx0_14
    have zx1_15 := Later.frozen hl_15 (lt_of_cell x1_14) zx1_14
    clear lt0_14
    clear lt1_14
    clear lt2_14
    have lt0_15 : w2.heap.size < w15.heap.size := lt_of_cell a0_15
    have lt1_15 : w4.heap.size < w15.heap.size := lt_of_cell b0_15
    have lt2_15 : w6.heap.size < w15.heap.size := lt_of_cell c0_15
    have lt3_15 : w13.heap.size < w15.heap.size := lt_of_cell x0_15
    have hB_15 := Later.below hl_15 hB_14 (by omega)
    have hz_15 := Later.size hl_15
    clear hl_15 a0_14 a1_14 b0_14 b1_14 c0_14 c1_14 x0_14 x1_14 zx0_14 zx1_14 hB_14
    go_wp2_with fail
    obtain ⟨w16, hw_16⟩ : ∃ w16, (w15.alloc (Obj.cells #[Value.int IntKind.i64 y1, Value.int IntKind.i64 y2] 23)) = w16 := ⟨_, rfl⟩
    rw [hw_16]
    have hl_16 : Later w15 w16 := by rw [← hw_16]; exact (Kin.Below.allocC (Below.refl _ _) (Nat.le_refl _))
    have y0_16 : w16.cell? ⟨w15.heap.size, 0, none⟩ = some (.int .i64 y1) := by rw [← hw_16]; simp [go_sem]
    have zy0_16 : w16.frozen? ⟨w15.heap.size, 0, none⟩ = false := by rw [← hw_16]; simp [go_sem]
    have y1_16 : w16.cell? ⟨w15.heap.size, 1, none⟩ = some (.int .i64 y2) := by rw [← hw_16]; simp [go_sem]
    have zy1_16 : w16.frozen? ⟨w15.heap.size, 1, none⟩ = false := by rw [← hw_16]; simp [go_sem]
    have hy_16 : w15.heap.size + 1 = w16.heap.size := by rw [← hw_16]; simp
    clear hw_16
    have a0_16 := Later.cell hl_16 a0_15
    have a1_16 := Later.cell hl_16 a1_15
    have b0_16 := Later.cell hl_16 b0_15
    have b1_16 := Later.cell hl_16 b1_15
    have c0_16 := Later.cell hl_16 c0_15
    have c1_16 := Later.cell hl_16 c1_15
    have x0_16 := Later.cell hl_16 x0_15
    have x1_16 := Later.cell hl_16 x1_15
    have zx0_16 := Later.frozen hl_16 (lt_of_cell x0_15) zx0_15
    have zx1_16 := Later.frozen hl_16 (lt_of_cell x1_15) zx1_15
    clear lt0_15
    clear lt1_15
    clear lt2_15
    clear lt3_15
    have lt0_16 : w2.heap.size < w16.heap.size := lt_of_cell a0_16
    have lt1_16 : w4.heap.size < w16.heap.size := lt_of_cell b0_16
    have lt2_16 : w6.heap.size < w16.heap.size := lt_of_cell c0_16
    have lt3_16 : w13.heap.size < w16.heap.size := lt_of_cell x0_16
    have hB_16 := Later.below hl_16 hB_15 (by omega)
    have hz_16 := Later.size hl_16
    clear hl_16 a0_15 a1_15 b0_15 b1_15 c0_15 c1_15 x0_15 x1_15 zx0_15 zx1_15 hB_15
    refine (cmpv F.out.vx F.out.vy F.out.xy _).mono ?_
    rintro e w17 ⟨rfl, hl_17⟩
    have a0_17 := Later.cell hl_17 a0_16
    have a1_17 := Later.cell hl_17 a1_16
    have b0_17 := Later.cell hl_17 b0_16
    have b1_17 := Later.cell hl_17 b1_16
    have c0_17 := Later.cell hl_17 c0_16
    have c1_17 := Later.cell hl_17 c1_16
    have x0_17 := Later.cell hl_17 x0_16
    have x1_17 := Later.cell hl_17 x1_16
    have y0_17 := Later.cell hl_17 y0_16
    have y1_17 := Later.cell hl_17 y1_16
    have zx0_17 := Later.frozen hl_17 (lt_of_cell x0_16) zx0_16
    have zx1_17 := Later.frozen hl_17 (lt_of_cell x1_16) zx1_16
    have zy0_17 := Later.frozen hl_17 (lt_of_cell y0_16) zy0_16
    have zy1_17 := Later.frozen hl_17 (lt_of_cell y1_16) zy1_16
    clear lt0_16
    clear lt1_16
    clear lt2_16
    clear lt3_16
    have lt0_17 : w2.heap.size < w17.heap.size := lt_of_cell a0_17
    have lt1_17 : w4.heap.size < w17.heap.size := lt_of_cell b0_17
    have lt2_17 : w6.heap.size < w17.heap.size := lt_of_cell c0_17
    have lt3_17 : w13.heap.size < w17.heap.size := lt_of_cell x0_17
    have lt4_17 : w15.heap.size < w17.heap.size := lt_of_cell y0_17
    have hB_17 := Later.below hl_17 hB_16 (by omega)
    have hz_17 := Later.size hl_17
    clear hl_17 a0_16 a1_16 b0_16 b1_16 c0_16 c1_16 x0_16 x1_16 y0_16 y1_16 zx0_16 zx1_16 zy0_16 zy1_16 hB_16
    go_wp2_with fail
    obtain ⟨w18, hw_18⟩ : ∃ w18, (w17.alloc (Obj.cells #[Value.int IntKind.i64 0, Value.int IntKind.i64 0, Value.int IntKind.i64 0] 25)) = w18 := ⟨_, rfl⟩
    rw [hw_18]
    have hl_18 : Later w17 w18 := by rw [← hw_18]; exact (Kin.Below.allocC (Below.refl _ _) (Nat.le_refl _))
    have l0_18 : w18.cell? ⟨w17.heap.size, 0, none⟩ = some (.int .i64 0) := by rw [← hw_18]; simp [go_sem]
    have l1_18 : w18.cell? ⟨w17.heap.size, 1, none⟩ = some (.int .i64 0) := by rw [← hw_18]; simp [go_sem]
    have l2_18 : w18.cell? ⟨w17.heap.size, 2, none⟩ = some (.int .i64 0) := by rw [← hw_18]; simp [go_sem]
    have hy_18 : w17.heap.size + 1 = w18.heap.size := by rw [← hw_18]; simp
    clear hw_18
    have a0_18 := Later.cell hl_18 a0_17
    have a1_18 := Later.cell hl_18 a1_17
    have b0_18 := Later.cell hl_18 b0_17
    have b1_18 := Later.cell hl_18 b1_17
    have c0_18 := Later.cell hl_18 c0_17
    have c1_18 := Later.cell hl_18 c1_17
    have x0_18 := Later.cell hl_18 x0_17
    have x1_18 := Later.cell hl_18 x1_17
    have y0_18 := Later.cell hl_18 y0_17
    have y1_18 := Later.cell hl_18 y1_17
    have zx0_18 := Later.frozen hl_18 (lt_of_cell x0_17) zx0_17
    have zx1_18 := Later.frozen hl_18 (lt_of_cell x1_17) zx1_17
    have zy0_18 := Later.frozen hl_18 (lt_of_cell y0_17) zy0_17
    have zy1_18 := Later.frozen hl_18 (lt_of_cell y1_17) zy1_17
    clear lt0_17
    clear lt1_17
    clear lt2_17
    clear lt3_17
    clear lt4_17
    have lt0_18 : w2.heap.size < w18.heap.size := lt_of_cell a0_18
    have lt1_18 : w4.heap.size < w18.heap.size := lt_of_cell b0_18
    have lt2_18 : w6.heap.size < w18.heap.size := lt_of_cell c0_18
    have lt3_18 : w13.heap.size < w18.heap.size := lt_of_cell x0_18
    have lt4_18 : w15.heap.size < w18.heap.size := lt_of_cell y0_18
    have hB_18 := Later.below hl_18 hB_17 (by omega)
    have hz_18 := Later.size hl_18
    clear hl_18 a0_17 a1_17 b0_17 b1_17 c0_17 c1_17 x0_17 x1_17 y0_17 y1_17 zx0_17 zx1_17 zy0_17 zy1_17 hB_17
    refine (all_zero _ 3 3 _ (by omega) (fun i hi => by match i, hi with | 0, _ => assumption | 1, _ => assumption | 2, _ => assumption)).mono ?_
    rintro e w' ⟨rfl, rfl⟩
    clear l0_18
    clear l1_18
    clear l2_18
    by_cases hc0 : c1 ≤ 0
    · go_wp2
      go_ret
      exact ⟨rfl, hB_18⟩
    · have hc1 : 0 < c1 := by omega
      clear hc0
      go_wp2_with fail
      refine (opv_Mul va.out.ok vc.out.ok F.out.z _).mono ?_
      rintro e w19 ⟨rfl, hl_19⟩
      have a0_19 := Later.cell hl_19 a0_18
      have a1_19 := Later.cell hl_19 a1_18
      have b0_19 := Later.cell hl_19 b0_18
      have b1_19 := Later.cell hl_19 b1_18
      have c0_19 := Later.cell hl_19 c0_18
      have c1_19 := Later.cell hl_19 c1_18
      have x0_19 := Later.cell hl_19 x0_18
      have x1_19 := Later.cell hl_19 x1_18
      have y0_19 := Later.cell hl_19 y0_18
      have y1_19 := Later.cell hl_19 y1_18
      have zx0_19 := Later.frozen hl_19 (lt_of_cell x0_18) zx0_18
      have zx1_19 := Later.frozen hl_19 (lt_of_cell x1_18) zx1_18
      have zy0_19 := Later.frozen hl_19 (lt_of_cell y0_18) zy0_18
      have zy1_19 := Later.frozen hl_19 (lt_of_cell y1_18) zy1_18
      clear lt0_18
      clear lt1_18
      clear lt2_18
      clear lt3_18
      clear lt4_18
      have lt0_19 : w2.heap.size < w19.heap.size := lt_of_cell a0_19
      have lt1_19 : w4.heap.size < w19.heap.size := lt_of_cell b0_19
      have lt2_19 : w6.heap.size < w19.heap.size := lt_of_cell c0_19
      have lt3_19 : w13.heap.size < w19.heap.size := lt_of_cell x0_19
      have lt4_19 : w15.heap.size < w19.heap.size := lt_of_cell y0_19
      have hB_19 := Later.below hl_19 hB_18 (by omega)
      have hz_19 := Later.size hl_19
      clear hl_19 a0_18 a1_18 b0_18 b1_18 c0_18 c1_18 x0_18 x1_18 y0_18 y1_18 zx0_18 zx1_18 zy0_18 zy1_18 hB_18
      go_wp2_with fail
      obtain ⟨w20, hw_20⟩ : ∃ w20, ((w19.setCell ⟨w13.heap.size, 0, none⟩ (.int .i64 z1)).setCell ⟨w13.heap.size, 1, none⟩ (.int .i64 z2)) = w20 := ⟨_, rfl⟩
      rw [hw_20]
      have a0_20 := cell_set_other (b' := w13.heap.size) (o' := 1) (u := .int .i64 z2) (cell_set_other (b' := w13.heap.size) (o' := 0) (u := .int .i64 z1) a0_19 (by omega)) (by omega)
      rw [hw_20] at a0_20
      have a1_20 := cell_set_other (b' := w13.heap.size) (o' := 1) (u := .int .i64 z2) (cell_set_other (b' := w13.heap.size) (o' := 0) (u := .int .i64 z1) a1_19 (by omega)) (by omega)
      rw [hw_20] at a1_20
      have b0_20 := cell_set_other (b' := w13.heap.size) (o' := 1) (u := .int .i64 z2) (cell_set_other (b' := w13.heap.size) (o' := 0) (u := .int .i64 z1) b0_19 (by omega)) (by omega)
      rw [hw_20] at b0_20
      have b1_20 := cell_set_other (b' := w13.heap.size) (o' := 1) (u := .int .i64 z2) (cell_set_other (b' := w13.heap.size) (o' := 0) (u := .int .i64 z1) b1_19 (by omega)) (by omega)
      rw [hw_20] at b1_20
      have c0_20 := cell_set_other (b' := w13.heap.size) (o' := 1) (u := .int .i64 z2) (cell_set_other (b' := w13.heap.size) (o' := 0) (u := .int .i64 z1) c0_19 (by omega)) (by omega)
      rw [hw_20] at c0_20
      have c1_20 := cell_set_other (b' := w13.heap.size) (o' := 1) (u := .int .i64 z2) (cell_set_other (b' := w13.heap.size) (o' := 0) (u := .int .i64 z1) c1_19 (by omega)) (by omega)
      rw [hw_20] at c1_20
      have x0_20 := cell_set_off (o' := 1) (u := .int .i64 z2) (cell_set_same (u := .int .i64 z1) x0_19) (by omega)
      rw [hw_20] at x0_20
      have x1_20 := cell_set_same (u := .int .i64 z2) (cell_set_off (o' := 0) (u := .int .i64 z1) x1_19 (by omega))
      rw [hw_20] at x1_20
      have y0_20 := cell_set_other (b' := w13.heap.size) (o' := 1) (u := .int .i64 z2) (cell_set_other (b' := w13.heap.size) (o' := 0) (u := .int .i64 z1) y0_19 (by omega)) (by omega)
      rw [hw_20] at y0_20
      have y1_20 := cell_set_other (b' := w13.heap.size) (o' := 1) (u := .int .i64 z2) (cell_set_other (b' := w13.heap.size) (o' := 0) (u := .int .i64 z1) y1_19 (by omega)) (by omega)
      rw [hw_20] at y1_20
      have zx0_20 := frozen_set (b := w13.heap.size) (o := 1) (u := .int .i64 z2) (frozen_set (b := w13.heap.size) (o := 0) (u := .int .i64 z1) zx0_19)
      rw [hw_20] at zx0_20
      have zx1_20 := frozen_set (b := w13.heap.size) (o := 1) (u := .int .i64 z2) (frozen_set (b := w13.heap.size) (o := 0) (u := .int .i64 z1) zx1_19)
      rw [hw_20] at zx1_20
      have zy0_20 := frozen_set (b := w13.heap.size) (o := 1) (u := .int .i64 z2) (frozen_set (b := w13.heap.size) (o := 0) (u := .int .i64 z1) zy0_19)
      rw [hw_20] at zy0_20
      have zy1_20 := frozen_set (b := w13.heap.size) (o := 1) (u := .int .i64 z2) (frozen_set (b := w13.heap.size) (o := 0) (u := .int .i64 z1) zy1_19)
      rw [hw_20] at zy1_20
      have hB_20 := Kin.Below.setC (b := w13.heap.size) (o := 1) (v := .int .i64 z2) (Kin.Below.setC (b := w13.heap.size) (o := 0) (v := .int .i64 z1) hB_19 (by omega)) (by omega)
      rw [hw_20] at hB_20
      have hz_20 : w20.heap.size = w19.heap.size := by rw [← hw_20]; simp only [size_set]
      rw [← hz_20] at lt0_19 lt1_19 lt2_19 lt3_19 lt4_19
      have hq_20 : w20.heap.size ≤ w19.heap.size ∧ w19.heap.size ≤ w20.heap.size := by omega
      clear hw_20 hz_20 a0_19 a1_19 b0_19 b1_19 c0_19 c1_19 x0_19 x1_19 y0_19 y1_19 zx0_19 zx1_19 zy0_19 zy1_19 hB_19
      refine (opv_Mul vb.out.ok vc.out.ok F.out.v _).mono ?_
      rintro e w21 ⟨rfl, hl_21⟩
      have a0_21 := Later.cell hl_21 a0_20
      have a1_21 := Later.cell hl_21 a1_20
      have b0_21 := Later.cell hl_21 b0_20
      have b1_21 := Later.cell hl_21 b1_20
      have c0_21 := Later.cell hl_21 c0_20
      have c1_21 := Later.cell hl_21 c1_20
      have x0_21 := Later.cell hl_21 x0_20
      have x1_21 := Later.cell hl_21 x1_20
      have y0_21 := Later.cell hl_21 y0_20
      have y1_21 := Later.cell hl_21 y1_20
      have zx0_21 := Later.frozen hl_21 (lt_of_cell x0_20) zx0_20
      have zx1_21 := Later.frozen hl_21 (lt_of_cell x1_20) zx1_20
      have zy0_21 := Later.frozen hl_21 (lt_of_cell y0_20) zy0_20
      have zy1_21 := Later.frozen hl_21 (lt_of_cell y1_20) zy1_20
      clear lt0_19
      clear lt1_19
      clear lt2_19
      clear lt3_19
      clear lt4_19
      have lt0_21 : w2.heap.size < w21.heap.size := lt_of_cell a0_21
      have lt1_21 : w4.heap.size < w21.heap.size := lt_of_cell b0_21
      have lt2_21 : w6.heap.size < w21.heap.size := lt_of_cell c0_21
      have lt3_21 : w13.heap.size < w21.heap.size := lt_of_cell x0_21
      have lt4_21 : w15.heap.size < w21.heap.size := lt_of_cell y0_21
      have hB_21 := Later.below hl_21 hB_20 (by omega)
      have hz_21 := Later.size hl_21
      clear hl_21 a0_20 a1_20 b0_20 b1_20 c0_20 c1_20 x0_20 x1_20 y0_20 y1_20 zx0_20 zx1_20 zy0_20 zy1_20 hB_20
      go_wp2_with fail
      obtain ⟨w22, hw_22⟩ : ∃ w22, ((w21.setCell ⟨w15.heap.size, 0, none⟩ (.int .i64 v1)).setCell ⟨w15.heap.size, 1, none⟩ (.int .i64 v2)) = w22 := ⟨_, rfl⟩
      rw [hw_22]
      have a0_22 := cell_set_other (b' := w15.heap.size) (o' := 1) (u := .int .i64 v2) (cell_set_other (b' := w15.heap.size) (o' := 0) (u := .int .i64 v1) a0_21 (by omega)) (by omega)
      rw [hw_22] at a0_22
      have a1_22 := cell_set_other (b' := w15.heap.size) (o' := 1) (u := .int .i64 v2) (cell_set_other (b' := w15.heap.size) (o' := 0) (u := .int .i64 v1) a1_21 (by omega)) (by omega)
      rw [hw_22] at a1_22
      have b0_22 := cell_set_other (b' := w15.heap.size) (o' := 1) (u := .int .i64 v2) (cell_set_other (b' := w15.heap.size) (o' := 0) (u := .int .i64 v1) b0_21 (by omega)) (by omega)
      rw [hw_22] at b0_22
      have b1_22 := cell_set_other (b' := w15.heap.size) (o' := 1) (u := .int .i64 v2) (cell_set_other (b' := w15.heap.size) (o' := 0) (u := .int .i64 v1) b1_21 (by omega)) (by omega)
      rw [hw_22] at b1_22
      have c0_22 := cell_set_other (b' := w15.heap.size) (o' := 1) (u := .int .i64 v2) (cell_set_other (b' := w15.heap.size) (o' := 0) (u := .int .i64 v1) c0_21 (by omega)) (by omega)
      rw [hw_22] at c0_22
      have c1_22 := cell_set_other (b' := w15.heap.size) (o' := 1) (u := .int .i64 v2) (cell_set_other (b' := w15.heap.size) (o' := 0) (u := .int .i64 v1) c1_21 (by omega)) (by omega)
      rw [hw_22] at c1_22
      have x0_22 := cell_set_other (b' := w15.heap.size) (o' := 1) (u := .int .i64 v2) (cell_set_other (b' := w15.heap.size) (o' := 0) (u := .int .i64 v1) x0_21 (by omega)) (by omega)
      rw [hw_22] at x0_22
      have x1_22 := cell_set_other (b' := w15.heap.size) (o' := 1) (u := .int .i64 v2) (cell_set_other (b' := w15.heap.size) (o' := 0) (u := .int .i64 v1) x1_21 (by omega)) (by omega)
      rw [hw_22] at x1_22
      have y0_22 := cell_set_off (o' := 1) (u := .int .i64 v2) (cell_set_same (u := .int .i64 v1) y0_21) (by omega)
      rw [hw_22] at y0_22
      have y1_22 := cell_set_same (u := .int .i64 v2) (cell_set_off (o' := 0) (u := .int .i64 v1) y1_21 (by omega))
      rw [hw_22] at y1_22
      have zx0_22 := frozen_set (b := w15.heap.size) (o := 1) (u := .int .i64 v2) (frozen_set (b := w15.heap.size) (o := 0) (u := .int .i64 v1) zx0_21)
      rw [hw_22] at zx0_22
      have zx1_22 := frozen_set (b := w15.heap.size) (o := 1) (u := .int .i64 v2) (frozen_set (b := w15.heap.size) (o := 0) (u := .int .i64 v1) zx1_21)
      rw [hw_22] at zx1_22
      have zy0_22 := frozen_set (b := w15.heap.size) (o := 1) (u := .int .i64 v2) (frozen_set (b := w15.heap.size) (o := 0) (u := .int .i64 v1) zy0_21)
      rw [hw_22] at zy0_22
      have zy1_22 := frozen_set (b := w15.heap.size) (o := 1) (u := .int .i64 v2) (frozen_set (b := w15.heap.size) (o := 0) (u := .int .i64 v1) zy1_21)
      rw [hw_22] at zy1_22
      have hB_22 := Kin.Below.setC (b := w15.heap.size) (o := 1) (v := .int .i64 v2) (Kin.Below.setC (b := w15.heap.size) (o := 0) (v := .int .i64 v1) hB_21 (by omega)) (by omega)
      rw [hw_22] at hB_22
      have hz_22 : w22.heap.size = w21.heap.size := by rw [← hw_22]; simp only [size_set]
      rw [← hz_22] at lt0_21 lt1_21 lt2_21 lt3_21 lt4_21
      have hq_22 : w22.heap.size ≤ w21.heap.size ∧ w21.heap.size ≤ w22.heap.size := by omega
      clear hw_22 hz_22 a0_21 a1_21 b0_21 b1_21 c0_21 c1_21 x0_21 x1_21 y0_21 y1_21 zx0_21 zx1_21 zy0_21 zy1_21 hB_21
      refine (cmpv F.out.vz F.out.vv (F.out.zv hc1) _).mono ?_
      rintro e w23 ⟨rfl, hl_23⟩
      have a0_23 := Later.cell hl_23 a0_22
      have a1_23 := Later.cell hl_23 a1_22
      have b0_23 := Later.cell hl_23 b0_22
      have b1_23 := Later.cell hl_23 b1_22
      have c0_23 := Later.cell hl_23 c0_22
      have c1_23 := Later.cell hl_23 c1_22
      have x0_23 := Later.cell hl_23 x0_22
      have x1_23 := Later.cell hl_23 x1_22
      have y0_23 := Later.cell hl_23 y0_22
      have y1_23 := Later.cell hl_23 y1_22
      have zx0_23 := Later.frozen hl_23 (lt_of_cell x0_22) zx0_22
      have zx1_23 := Later.frozen hl_23 (lt_of_cell x1_22) zx1_22
      have zy0_23 := Later.frozen hl_23 (lt_of_cell y0_22) zy0_22
      have zy1_23 := Later.frozen hl_23 (lt_of_cell y1_22) zy1_22
      clear lt0_21
      clear lt1_21
      clear lt2_21
      clear lt3_21
      clear lt4_21
      have lt0_23 : w2.heap.size < w23.heap.size := lt_of_cell a0_23
      have lt1_23 : w4.heap.size < w23.heap.size := lt_of_cell b0_23
      have lt2_23 : w6.heap.size < w23.heap.size := lt_of_cell c0_23
      have lt3_23 : w13.heap.size < w23.heap.size := lt_of_cell x0_23
      have lt4_23 : w15.heap.size < w23.heap.size := lt_of_cell y0_23
      have hB_23 := Later.below hl_23 hB_22 (by omega)
      have hz_23 := Later.size hl_23
      clear hl_23 a0_22 a1_22 b0_22 b1_22 c0_22 c1_22 x0_22 x1_22 y0_22 y1_22 zx0_22 zx1_22 zy0_22 zy1_22 hB_22
      go_wp2_with fail
      obtain ⟨w24, hw_24⟩ : ∃ w24, (w23.alloc (Obj.cells #[Value.int IntKind.i64 0, Value.int IntKind.i64 0, Value.int IntKind.i64 0] 25)) = w24 := ⟨_, rfl⟩
      rw [hw_24]
      have hl_24 : Later w23 w24 := by rw [← hw_24]; exact (Kin.Below.allocC (Below.refl _ _) (Nat.le_refl _))
      have l0_24 : w24.cell? ⟨w23.heap.size, 0, none⟩ = some (.int .i64 0) := by rw [← hw_24]; simp [go_sem]
      have l1_24 : w24.cell? ⟨w23.heap.size, 1, none⟩ = some (.int .i64 0) := by rw [← hw_24]; simp [go_sem]
      have l2_24 : w24.cell? ⟨w23.heap.size, 2, none⟩ = some (.int .i64 0) := by rw [← hw_24]; simp [go_sem]
      have hy_24 : w23.heap.size + 1 = w24.heap.size := by rw [← hw_24]; simp
      clear hw_24
      have a0_24 := Later.cell hl_24 a0_23
      have a1_24 := Later.cell hl_24 a1_23
      have b0_24 := Later.cell hl_24 b0_23
      have b1_24 := Later.cell hl_24 b1_23
      have c0_24 := Later.cell hl_24 c0_23
      have c1_24 := Later.cell hl_24 c1_23
      have x0_24 := Later.cell hl_24 x0_23
      have x1_24 := Later.cell hl_24 x1_23
      have y0_24 := Later.cell hl_24 y0_23
      have y1_24 := Later.cell hl_24 y1_23
      have zx0_24 := Later.frozen hl_24 (lt_of_cell x0_23) zx0_23
      have zx1_24 := Later.frozen hl_24 (lt_of_cell x1_23) zx1_23
      have zy0_24 := Later.frozen hl_24 (lt_of_cell y0_23) zy0_23
      have zy1_24 := Later.frozen hl_24 (lt_of_cell y1_23) zy1_23
      clear lt0_23
      clear lt1_23
      clear lt2_23
      clear lt3_23
      clear lt4_23
      have lt0_24 : w2.heap.size < w24.heap.size := lt_of_cell a0_24
      have lt1_24 : w4.heap.size < w24.heap.size := lt_of_cell b0_24
      have lt2_24 : w6.heap.size < w24.heap.size := lt_of_cell c0_24
      have lt3_24 : w13.heap.size < w24.heap.size := lt_of_cell x0_24
      have lt4_24 : w15.heap.size < w24.heap.size := lt_of_cell y0_24
      have hB_24 := Later.below hl_24 hB_23 (by omega)
      have hz_24 := Later.size hl_24
      clear hl_24 a0_23 a1_23 b0_23 b1_23 c0_23 c1_23 x0_23 x1_23 y0_23 y1_23 zx0_23 zx1_23 zy0_23 zy1_23 hB_23
      refine (all_zero _ 3 3 _ (by omega) (fun i hi => by match i, hi with | 0, _ => assumption | 1, _ => assumption | 2, _ => assumption)).mono ?_
      rintro e w' ⟨rfl, rfl⟩
      clear l0_24
      clear l1_24
      clear l2_24
      go_wp2
      go_ret
      exact ⟨rfl, hB_24⟩
end R12
end Go.Proofs
