/- RatioField walked. -/
import Derived.Test.YtakahkhofjpjoaaOpV
namespace Go.Proofs
open Go.RowKit Go.Shelf Go.Kin
namespace R12
set_option maxRecDepth 100000 in
set_option maxHeartbeats 8000000 in
theorem ratioField_any (n m k d f g : Int) (w : World) (n1 : -32768 ≤ n) (n2 : n ≤ 32767) (d1 : 0 ≤ d) (d2 : d ≤ 65535) (m1 : -32768 ≤ m) (m2 : m ≤ 32767) (f1 : 0 ≤ f) (f2 : f ≤ 65535) (k1 : -32768 ≤ k) (k2 : k ≤ 32767) (g1 : 0 ≤ g) (g2 : g ≤ 65535) :
    Calls Try.prog 9 #[.int .i16 n, .int .i16 m, .int .i16 k, .int .u16 d, .int .u16 f, .int .u16 g] w fun e w' => e = .returned (.bool true) ∧ Below w.heap.size w w' := by
  obtain ⟨a1, a2, hNa, hDa, va, ea⟩ := few_val n d
  have HNa := Lib.hid hNa; have HDa := Lib.hid hDa; clear hNa hDa
  obtain ⟨b1, b2, hNb, hDb, vb, eb⟩ := few_val m f
  have HNb := Lib.hid hNb; have HDb := Lib.hid hDb; clear hNb hDb
  obtain ⟨c1, c2, hNc, hDc, vc, ec⟩ := few_val k g
  have HNc := Lib.hid hNc; have HDc := Lib.hid hDc; clear hNc hDc
  obtain ⟨s1, s2, p1, p2, t1, t2, u1, u2, r1, r2, x1, x2, z1, z2, F0⟩ := field_law va vb vc
  have F := Lib.hid F0; clear F0 ea eb ec
  have va' := Lib.hid va; clear va; have va := va'; clear va'
  have vb' := Lib.hid vb; clear vb; have vb := vb'; clear vb'
  have vc' := Lib.hid vc; clear vc; have vc := vc'; clear vc'
  obtain ⟨E, hE⟩ : ∃ E, mkE (a1 * t2 + t1 * a2) (a2 * t2) = E := ⟨_, rfl⟩
  have hlim : E = 0 ∨ E = 2 := by rw [← hE]; exact F.out.lim
  have HE := Lib.hid hE; clear hE
  have HLim := Lib.hid hlim; clear hlim
  have hB_0 := Below.refl w.heap.size w
  go_enter Try.func9, Try.ntmps9
  go_wp2_with fail
  refine (sane_any _).mono ?_
  rintro e w1 ⟨rfl, hl_1⟩
  have hB_1 := Later.below hl_1 hB_0 (by omega)
  have hz_1 := Later.size hl_1
  clear hl_1  hB_0
  go_wp2_with fail
  refine (fewv HNa.out HDa.out n1 n2 d1 d2 _).mono ?_
  rintro e w2 ⟨rfl, hl_2⟩
  have hB_2 := Later.below hl_2 hB_1 (by omega)
  have hz_2 := Later.size hl_2
  clear hl_2  hB_1
  go_wp2_with fail
  obtain ⟨w3, hw_3⟩ : ∃ w3, (w2.alloc (Obj.cells #[Value.int IntKind.i64 a1, Value.int IntKind.i64 a2] 23)) = w3 := ⟨_, rfl⟩
  rw [hw_3]
  have hl_3 : Later w2 w3 := by rw [← hw_3]; exact (Kin.Below.allocC (Below.refl _ _) (Nat.le_refl _))
  have a0_3 : w3.cell? ⟨w2.heap.size, 0, none⟩ = some (.int .i64 a1) := by rw [← hw_3]; simp [go_sem]
  have a1_3 : w3.cell? ⟨w2.heap.size, 1, none⟩ = some (.int .i64 a2) := by rw [← hw_3]; simp [go_sem]
  have hy_3 : w2.heap.size + 1 = w3.heap.size := by rw [← hw_3]; simp
  clear hw_3
  have hB_3 := Later.below hl_3 hB_2 (by omega)
  have hz_3 := Later.size hl_3
  clear hl_3  hB_2
  refine (fewv HNb.out HDb.out m1 m2 f1 f2 _).mono ?_
  rintro e w4 ⟨rfl, hl_4⟩
  have a0_4 := Later.cell hl_4 a0_3
  have a1_4 := Later.cell hl_4 a1_3
  have lt0_4 : w2.heap.size < w4.heap.size := lt_of_cell a0_4
  have hB_4 := Later.below hl_4 hB_3 (by omega)
  have hz_4 := Later.size hl_4
  clear hl_4 a0_3 a1_3 hB_3
  go_wp2_with fail
  obtain ⟨w5, hw_5⟩ : ∃ w5, (w4.alloc (Obj.cells #[Value.int IntKind.i64 b1, Value.int IntKind.i64 b2] 23)) = w5 := ⟨_, rfl⟩
  rw [hw_5]
  have hl_5 : Later w4 w5 := by rw [← hw_5]; exact (Kin.Below.allocC (Below.refl _ _) (Nat.le_refl _))
  have b0_5 : w5.cell? ⟨w4.heap.size, 0, none⟩ = some (.int .i64 b1) := by rw [← hw_5]; simp [go_sem]
  have b1_5 : w5.cell? ⟨w4.heap.size, 1, none⟩ = some (.int .i64 b2) := by rw [← hw_5]; simp [go_sem]
  have hy_5 : w4.heap.size + 1 = w5.heap.size := by rw [← hw_5]; simp
  clear hw_5
  have a0_5 := Later.cell hl_5 a0_4
  have a1_5 := Later.cell hl_5 a1_4
  clear lt0_4
  have lt0_5 : w2.heap.size < w5.heap.size := lt_of_cell a0_5
  have hB_5 := Later.below hl_5 hB_4 (by omega)
  have hz_5 := Later.size hl_5
  clear hl_5 a0_4 a1_4 hB_4
  refine (fewv HNc.out HDc.out k1 k2 g1 g2 _).mono ?_
  rintro e w6 ⟨rfl, hl_6⟩
  have a0_6 := Later.cell hl_6 a0_5
  have a1_6 := Later.cell hl_6 a1_5
  have b0_6 := Later.cell hl_6 b0_5
  have b1_6 := Later.cell hl_6 b1_5
  clear lt0_5
  have lt0_6 : w2.heap.size < w6.heap.size := lt_of_cell a0_6
  have lt1_6 : w4.heap.size < w6.heap.size := lt_of_cell b0_6
  have hB_6 := Later.below hl_6 hB_5 (by omega)
  have hz_6 := Later.size hl_6
  clear hl_6 a0_5 a1_5 b0_5 b1_5 hB_5
  go_wp2_with fail
  obtain ⟨w7, hw_7⟩ : ∃ w7, (w6.alloc (Obj.cells #[Value.int IntKind.i64 c1, Value.int IntKind.i64 c2] 23)) = w7 := ⟨_, rfl⟩
  rw [hw_7]
  have hl_7 : Later w6 w7 := by rw [← hw_7]; exact (Kin.Below.allocC (Below.refl _ _) (Nat.le_refl _))
  have c0_7 : w7.cell? ⟨w6.heap.size, 0, none⟩ = some (.int .i64 c1) := by rw [← hw_7]; simp [go_sem]
  have c1_7 : w7.cell? ⟨w6.heap.size, 1, none⟩ = some (.int .i64 c2) := by rw [← hw_7]; simp [go_sem]
  have hy_7 : w6.heap.size + 1 = w7.heap.size := by rw [← hw_7]; simp
  clear hw_7
  have a0_7 := Later.cell hl_7 a0_6
  have a1_7 := Later.cell hl_7 a1_6
  have b0_7 := Later.cell hl_7 b0_6
  have b1_7 := Later.cell hl_7 b1_6
  clear lt0_6
  clear lt1_6
  have lt0_7 : w2.heap.size < w7.heap.size := lt_of_cell a0_7
  have lt1_7 : w4.heap.size < w7.heap.size := lt_of_cell b0_7
  have hB_7 := Later.below hl_7 hB_6 (by omega)
  have hz_7 := Later.size hl_7
  clear hl_7 a0_6 a1_6 b0_6 b1_6 hB_6
  refine (opv_Add va.out.ok vb.out.ok F.out.ab _).mono ?_
  rintro e w8 ⟨rfl, hl_8⟩
  have a0_8 := Later.cell hl_8 a0_7
  have a1_8 := Later.cell hl_8 a1_7
  have b0_8 := Later.cell hl_8 b0_7
  have b1_8 := Later.cell hl_8 b1_7
  have c0_8 := Later.cell hl_8 c0_7
  have c1_8 := Later.cell hl_8 c1_7
  clear lt0_7
  clear lt1_7
  have lt0_8 : w2.heap.size < w8.heap.size := lt_of_cell a0_8
  have lt1_8 : w4.heap.size < w8.heap.size := lt_of_cell b0_8
  have lt2_8 : w6.heap.size < w8.heap.size := lt_of_cell c0_8
  have hB_8 := Later.below hl_8 hB_7 (by omega)
  have hz_8 := Later.size hl_8
  clear hl_8 a0_7 a1_7 b0_7 b1_7 c0_7 c1_7 hB_7
  go_wp2_with fail
  obtain ⟨w9, hw_9⟩ : ∃ w9, (w8.alloc (Obj.cells #[Value.int IntKind.i64 s1, Value.int IntKind.i64 s2] 23)) = w9 := ⟨_, rfl⟩
  rw [hw_9]
  have hl_9 : Later w8 w9 := by rw [← hw_9]; exact (Kin.Below.allocC (Below.refl _ _) (Nat.le_refl _))
  have ab0_9 : w9.cell? ⟨w8.heap.size, 0, none⟩ = some (.int .i64 s1) := by rw [← hw_9]; simp [go_sem]
  have ab1_9 : w9.cell? ⟨w8.heap.size, 1, none⟩ = some (.int .i64 s2) := by rw [← hw_9]; simp [go_sem]
  have hy_9 : w8.heap.size + 1 = w9.heap.size := by rw [← hw_9]; simp
  clear hw_9
  have a0_9 := Later.cell hl_9 a0_8
  have a1_9 := Later.cell hl_9 a1_8
  have b0_9 := Later.cell hl_9 b0_8
  have b1_9 := Later.cell hl_9 b1_8
  have c0_9 := Later.cell hl_9 c0_8
  have c1_9 := Later.cell hl_9 c1_8
  clear lt0_8
  clear lt1_8
  clear lt2_8
  have lt0_9 : w2.heap.size < w9.heap.size := lt_of_cell a0_9
  have lt1_9 : w4.heap.size < w9.heap.size := lt_of_cell b0_9
  have lt2_9 : w6.heap.size < w9.heap.size := lt_of_cell c0_9
  have hB_9 := Later.below hl_9 hB_8 (by omega)
  have hz_9 := Later.size hl_9
  clear hl_9 a0_8 a1_8 b0_8 b1_8 c0_8 c1_8 hB_8
  refine (opv_Add vb.out.ok va.out.ok F.out.ba _).mono ?_
  rintro e w10 ⟨rfl, hl_10⟩
  have a0_10 := Later.cell hl_10 a0_9
  have a1_10 := Later.cell hl_10 a1_9
  have b0_10 := Later.cell hl_10 b0_9
  have b1_10 := Later.cell hl_10 b1_9
  have c0_10 := Later.cell hl_10 c0_9
  have c1_10 := Later.cell hl_10 c1_9
  have ab0_10 := Later.cell hl_10 ab0_9
  have ab1_10 := Later.cell hl_10 ab1_9
  clear lt0_9
  clear lt1_9
  clear lt2_9
  have lt0_10 : w2.heap.size < w10.heap.size := lt_of_cell a0_10
  have lt1_10 : w4.heap.size < w10.heap.size := lt_of_cell b0_10
  have lt2_10 : w6.heap.size < w10.heap.size := lt_of_cell c0_10
  have lt3_10 : w8.heap.size < w10.heap.size := lt_of_cell ab0_10
  have hB_10 := Later.below hl_10 hB_9 (by omega)
  have hz_10 := Later.size hl_10
  clear hl_10 a0_9 a1_9 b0_9 b1_9 c0_9 c1_9 ab0_9 ab1_9 hB_9
  go_wp2_with fail
  obtain ⟨w11, hw_11⟩ : ∃ w11, (w10.alloc (Obj.cells #[Value.int IntKind.i64 s1, Value.int IntKind.i64 s2] 23)) = w11 := ⟨_, rfl⟩
  rw [hw_11]
  have hl_11 : Later w10 w11 := by rw [← hw_11]; exact (Kin.Below.allocC (Below.refl _ _) (Nat.le_refl _))
  have ba0_11 : w11.cell? ⟨w10.heap.size, 0, none⟩ = some (.int .i64 s1) := by rw [← hw_11]; simp [go_sem]
  have ba1_11 : w11.cell? ⟨w10.heap.size, 1, none⟩ = some (.int .i64 s2) := by rw [← hw_11]; simp [go_sem]
  have hy_11 : w10.heap.size + 1 = w11.heap.size := by rw [← hw_11]; simp
  clear hw_11
  have a0_11 := Later.cell hl_11 a0_10
  have a1_11 := Later.cell hl_11 a1_10
  have b0_11 := Later.cell hl_11 b0_10
  have b1_11 := Later.cell hl_11 b1_10
  have c0_11 := Later.cell hl_11 c0_10
  have c1_11 := Later.cell hl_11 c1_10
  have ab0_11 := Later.cell hl_11 ab0_10
  have ab1_11 := Later.cell hl_11 ab1_10
  clear lt0_10
  clear lt1_10
  clear lt2_10
  clear lt3_10
  have lt0_11 : w2.heap.size < w11.heap.size := lt_of_cell a0_11
  have lt1_11 : w4.heap.size < w11.heap.size := lt_of_cell b0_11
  have lt2_11 : w6.heap.size < w11.heap.size := lt_of_cell c0_11
  have lt3_11 : w8.heap.size < w11.heap.size := lt_of_cell ab0_11
  have hB_11 := Later.below hl_11 hB_10 (by omega)
  have hz_11 := Later.size hl_11
  clear hl_11 a0_10 a1_10 b0_10 b1_10 c0_10 c1_10 ab0_10 ab1_10 hB_10
  refine (opv_Mul va.out.ok vb.out.ok F.out.p _).mono ?_
  rintro e w12 ⟨rfl, hl_12⟩
  have a0_12 := Later.cell hl_12 a0_11
  have a1_12 := Later.cell hl_12 a1_11
  have b0_12 := Later.cell hl_12 b0_11
  have b1_12 := Later.cell hl_12 b1_11
  have c0_12 := Later.cell hl_12 c0_11
  have c1_12 := Later.cell hl_12 c1_11
  have ab0_12 := Later.cell hl_12 ab0_11
  have ab1_12 := Later.cell hl_12 ab1_11
  have ba0_12 := Later.cell hl_12 ba0_11
  have ba1_12 := Later.cell hl_12 ba1_11
  clear lt0_11
  clear lt1_11
  clear lt2_11
  clear lt3_11
  have lt0_12 : w2.heap.size < w12.heap.size := lt_of_cell a0_12
  have lt1_12 : w4.heap.size < w12.heap.size := lt_of_cell b0_12
  have lt2_12 : w6.heap.size < w12.heap.size := lt_of_cell c0_12
  have lt3_12 : w8.heap.size < w12.heap.size := lt_of_cell ab0_12
  have lt4_12 : w10.heap.size < w12.heap.size := lt_of_cell ba0_12
  have hB_12 := Later.below hl_12 hB_11 (by omega)
  have hz_12 := Later.size hl_12
  clear hl_12 a0_11 a1_11 b0_11 b1_11 c0_11 c1_11 ab0_11 ab1_11 ba0_11 ba1_11 hB_11
  go_wp2_with fail
  obtain ⟨w13, hw_13⟩ : ∃ w13, (w12.alloc (Obj.cells #[Value.int IntKind.i64 p1, Value.int IntKind.i64 p2] 23)) = w13 := ⟨_, rfl⟩
  rw [hw_13]
  have hl_13 : Later w12 w13 := by rw [← hw_13]; exact (Kin.Below.allocC (Below.refl _ _) (Nat.le_refl _))
  have p0_13 : w13.cell? ⟨w12.heap.size, 0, none⟩ = some (.int .i64 p1) := by rw [← hw_13]; simp [go_sem]
  have p1_13 : w13.cell? ⟨w12.heap.size, 1, none⟩ = some (.int .i64 p2) := by rw [← hw_13]; simp [go_sem]
  have hy_13 : w12.heap.size + 1 = w13.heap.size := by rw [← hw_13]; simp
  clear hw_13
  have a0_13 := Later.cell hl_13 a0_12
  have a1_13 := Later.cell hl_13 a1_12
  have b0_13 := Later.cell hl_13 b0_12
  have b1_13 := Later.cell hl_13 b1_12
  have c0_13 := Later.cell hl_13 c0_12
  have c1_13 := Later.cell hl_13 c1_12
  have ab0_13 := Later.cell hl_13 ab0_12
  have ab1_13 := Later.cell hl_13 ab1_12
  have ba0_13 := Later.cell hl_13 ba0_12
  have ba1_13 := Later.cell hl_13 ba1_12
  clear lt0_12
  clear lt1_12
  clear lt2_12
  clear lt3_12
  clear lt4_12
  have lt0_13 : w2.heap.size < w13.heap.size := lt_of_cell a0_13
  have lt1_13 : w4.heap.size < w13.heap.size := lt_of_cell b0_13
  have lt2_13 : w6.heap.size < w13.heap.size := lt_of_cell c0_13
  have lt3_13 : w8.heap.size < w13.heap.size := lt_of_cell ab0_13
  have lt4_13 : w10.heap.size < w13.heap.size := lt_of_cell ba0_13
  have hB_13 := Later.below hl_13 hB_12 (by omega)
  have hz_13 := Later.size hl_13
  clear hl_13 a0_12 a1_12 b0_12 b1_12 c0_12 c1_12 ab0_12 ab1_12 ba0_12 ba1_12 hB_12
  refine (opv_Mul vb.out.ok va.out.ok F.out.q _).mono ?_
  rintro e w14 ⟨rfl, hl_14⟩
  have a0_14 := Later.cell hl_14 a0_13
  have a1_14 := Later.cell hl_14 a1_13
  have b0_14 := Later.cell hl_14 b0_13
  have b1_14 := Later.cell hl_14 b1_13
  have c0_14 := Later.cell hl_14 c0_13
  have c1_14 := Later.cell hl_14 c1_13
  have ab0_14 := Later.cell hl_14 ab0_13
  have ab1_14 := Later.cell hl_14 ab1_13
  have ba0_14 := Later.cell hl_14 ba0_13
  have ba1_14 := Later.cell hl_14 ba1_13
  have p0_14 := Later.cell hl_14 p0_13
  have p1_14 := Later.cell hl_14 p1_13
  clear lt0_13
  clear lt1_13
  clear lt2_13
  clear lt3_13
  clear lt4_13
  have lt0_14 : w2.heap.size < w14.heap.size := lt_of_cell a0_14
  have lt1_14 : w4.heap.size < w14.heap.size := lt_of_cell b0_14
  have lt2_14 : w6.heap.size < w14.heap.size := lt_of_cell c0_14
  have lt3_14 : w8.heap.size < w14.heap.size := lt_of_cell ab0_14
  have lt4_14 : w10.heap.size < w14.heap.size := lt_of_cell ba0_14
  have lt5_14 : w12.heap.size < w14.heap.size := lt_of_cell p0_14
  have hB_14 := Later.below hl_14 hB_13 (by omega)
  have hz_14 := Later.size hl_14
  clear hl_14 a0_13 a1_13 b0_13 b1_13 c0_13 c1_13 ab0_13 ab1_13 ba0_13 ba1_13 p0_13 p1_13 hB_13
  go_wp2_with fail
  obtain ⟨w15, hw_15⟩ : ∃ w15, (w14.alloc (Obj.cells #[Value.int IntKind.i64 p1, Value.int IntKind.i64 p2] 23)) = w15 := ⟨_, rfl⟩
  rw [hw_15]
  have hl_15 : Later w14 w15 := by rw [← hw_15]; exact (Kin.Below.allocC (Below.refl _ _) (Nat.le_refl _))
  have q0_15 : w15.cell? ⟨w14.heap.size, 0, none⟩ = some (.int .i64 p1) := by rw [← hw_15]; simp [go_sem]
  have q1_15 : w15.cell? ⟨w14.heap.size, 1, none⟩ = some (.int .i64 p2) := by rw [← hw_15]; simp [go_sem]
  have hy_15 : w14.heap.size + 1 = w15.heap.size := by rw [← hw_15]; simp
  clear hw_15
  have a0_15 := Later.cell hl_15 a0_14
  have a1_15 := Later.cell hl_15 a1_14
  have b0_15 := Later.cell hl_15 b0_14
  have b1_15 := Later.cell hl_15 b1_14
  have c0_15 := Later.cell hl_15 c0_14
  have c1_15 := Later.cell hl_15 c1_14
  have ab0_15 := Later.cell hl_15 ab0_14
  have ab1_15 := Later.cell hl_15 ab1_14
  have ba0_15 := Later.cell hl_15 ba0_14
  have ba1_15 := Later.cell hl_15 ba1_14
  have p0_15 := Later.cell hl_15 p0_14
  have p1_15 := Later.cell hl_15 p1_14
  clear lt0_14
  clear lt1_14
  clear lt2_14
  clear lt3_14
  clear lt4_14
  clear lt5_14
  have lt0_15 : w2.heap.size < w15.heap.size := lt_of_cell a0_15
  have lt1_15 : w4.heap.size < w15.heap.size := lt_of_cell b0_15
  have lt2_15 : w6.heap.size < w15.heap.size := lt_of_cell c0_15
  have lt3_15 : w8.heap.size < w15.heap.size := lt_of_cell ab0_15
  have lt4_15 : w10.heap.size < w15.heap.size := lt_of_cell ba0_15
  have lt5_15 : w12.heap.size < w15.heap.size := lt_of_cell p0_15
  have hB_15 := Later.below hl_15 hB_14 (by omega)
  have hz_15 := Later.size hl_15
  clear hl_15 a0_14 a1_14 b0_14 b1_14 c0_14 c1_14 ab0_14 ab1_14 ba0_14 ba1_14 p0_14 p1_14 hB_14
  refine (opv_Sub F.out.vs vb.out.ok F.out.back _).mono ?_
  rintro e w16 ⟨rfl, hl_16⟩
  have a0_16 := Later.cell hl_16 a0_15
  have a1_16 := Later.cell hl_16 a1_15
  have b0_16 := Later.cell hl_16 b0_15
  have b1_16 := Later.cell hl_16 b1_15
  have c0_16 := Later.cell hl_16 c0_15
  have c1_16 := Later.cell hl_16 c1_15
  have ab0_16 := Later.cell hl_16 ab0_15
  have ab1_16 := Later.cell hl_16 ab1_15
  have ba0_16 := Later.cell hl_16 ba0_15
  have ba1_16 := Later.cell hl_16 ba1_15
  have p0_16 := Later.cell hl_16 p0_15
  have p1_16 := Later.cell hl_16 p1_15
  have q0_16 := Later.cell hl_16 q0_15
  have q1_16 := Later.cell hl_16 q1_15
  clear lt0_15
  clear lt1_15
  clear lt2_15
  clear lt3_15
  clear lt4_15
  clear lt5_15
  have lt0_16 : w2.heap.size < w16.heap.size := lt_of_cell a0_16
  have lt1_16 : w4.heap.size < w16.heap.size := lt_of_cell b0_16
  have lt2_16 : w6.heap.size < w16.heap.size := lt_of_cell c0_16
  have lt3_16 : w8.heap.size < w16.heap.size := lt_of_cell ab0_16
  have lt4_16 : w10.heap.size < w16.heap.size := lt_of_cell ba0_16
  have lt5_16 : w12.heap.size < w16.heap.size := lt_of_cell p0_16
  have lt6_16 : w14.heap.size < w16.heap.size := lt_of_cell q0_16
  have hB_16 := Later.below hl_16 hB_15 (by omega)
  have hz_16 := Later.size hl_16
  clear hl_16 a0_15 a1_15 b0_15 b1_15 c0_15 c1_15 ab0_15 ab1_15 ba0_15 ba1_15 p0_15 p1_15 q0_15 q1_15 hB_15
  go_wp2_with fail
  obtain ⟨w17, hw_17⟩ : ∃ w17, (w16.alloc (Obj.cells #[Value.int IntKind.i64 a1, Value.int IntKind.i64 a2] 23)) = w17 := ⟨_, rfl⟩
  rw [hw_17]
  have hl_17 : Later w16 w17 := by rw [← hw_17]; exact (Kin.Below.allocC (Below.refl _ _) (Nat.le_refl _))
  have k0_17 : w17.cell? ⟨w16.heap.size, 0, none⟩ = some (.int .i64 a1) := by rw [← hw_17]; simp [go_sem]
  have k1_17 : w17.cell? ⟨w16.heap.size, 1, none⟩ = some (.int .i64 a2) := by rw [← hw_17]; simp [go_sem]
  have hy_17 : w16.heap.size + 1 = w17.heap.size := by rw [← hw_17]; simp
  clear hw_17
  have a0_17 := Later.cell hl_17 a0_16
  have a1_17 := Later.cell hl_17 a1_16
  have b0_17 := Later.cell hl_17 b0_16
  have b1_17 := Later.cell hl_17 b1_16
  have c0_17 := Later.cell hl_17 c0_16
  have c1_17 := Later.cell hl_17 c1_16
  have ab0_17 := Later.cell hl_17 ab0_16
  have ab1_17 := Later.cell hl_17 ab1_16
  have ba0_17 := Later.cell hl_17 ba0_16
  have ba1_17 := Later.cell hl_17 ba1_16
  have p0_17 := Later.cell hl_17 p0_16
  have p1_17 := Later.cell hl_17 p1_16
  have q0_17 := Later.cell hl_17 q0_16
  have q1_17 := Later.cell hl_17 q1_16
  clear lt0_16
  clear lt1_16
  clear lt2_16
  clear lt3_16
  clear lt4_16
  clear lt5_16
  clear lt6_16
  have lt0_17 : w2.heap.size < w17.heap.size := lt_of_cell a0_17
  have lt1_17 : w4.heap.size < w17.heap.size := lt_of_cell b0_17
  have lt2_17 : w6.heap.size < w17.heap.size := lt_of_cell c0_17
  have lt3_17 : w8.heap.size < w17.heap.size := lt_of_cell ab0_17
  have lt4_17 : w10.heap.size < w17.heap.size := lt_of_cell ba0_17
  have lt5_17 : w12.heap.size < w17.heap.size := lt_of_cell p0_17
  have lt6_17 : w14.heap.size < w17.heap.size := lt_of_cell q0_17
  have hB_17 := Later.below hl_17 hB_16 (by omega)
  have hz_17 := Later.size hl_17
  clear hl_17 a0_16 a1_16 b0_16 b1_16 c0_16 c1_16 ab0_16 ab1_16 ba0_16 ba1_16 p0_16 p1_16 q0_16 q1_16 hB_16
  refine (opv_Add vb.out.ok vc.out.ok F.out.bc _).mono ?_
  rintro e w18 ⟨rfl, hl_18⟩
  have a0_18 := Later.cell hl_18 a0_17
  have a1_18 := Later.cell hl_18 a1_17
  have b0_18 := Later.cell hl_18 b0_17
  have b1_18 := Later.cell hl_18 b1_17
  have c0_18 := Later.cell hl_18 c0_17
  have c1_18 := Later.cell hl_18 c1_17
  have ab0_18 := Later.cell hl_18 ab0_17
  have ab1_18 := Later.cell hl_18 ab1_17
  have ba0_18 := Later.cell hl_18 ba0_17
  have ba1_18 := Later.cell hl_18 ba1_17
  have p0_18 := Later.cell hl_18 p0_17
  have p1_18 := Later.cell hl_18 p1_17
  have q0_18 := Later.cell hl_18 q0_17
  have q1_18 := Later.cell hl_18 q1_17
  have k0_18 := Later.cell hl_18 k0_17
  have k1_18 := Later.cell hl_18 k1_17
  clear lt0_17
  clear lt1_17
  clear lt2_17
  clear lt3_17
  clear lt4_17
  clear lt5_17
  clear lt6_17
  have lt0_18 : w2.heap.size < w18.heap.size := lt_of_cell a0_18
  have lt1_18 : w4.heap.size < w18.heap.size := lt_of_cell b0_18
  have lt2_18 : w6.heap.size < w18.heap.size := lt_of_cell c0_18
  have lt3_18 : w8.heap.size < w18.heap.size := lt_of_cell ab0_18
  have lt4_18 : w10.heap.size < w18.heap.size := lt_of_cell ba0_18
  have lt5_18 : w12.heap.size < w18.heap.size := lt_of_cell p0_18
  have lt6_18 : w14.heap.size < w18.heap.size := lt_of_cell q0_18
  have lt7_18 : w16.heap.size < w18.heap.size := lt_of_cell k0_18
  have hB_18 := Later.below hl_18 hB_17 (by omega)
  have hz_18 := Later.size hl_18
  clear hl_18 a0_17 a1_17 b0_17 b1_17 c0_17 c1_17 ab0_17 ab1_17 ba0_17 ba1_17 p0_17 p1_17 q0_17 q1_17 k0_17 k1_17 hB_17
  go_wp2_with fail
  obtain ⟨w19, hw_19⟩ : ∃ w19, (w18.alloc (Obj.cells #[Value.int IntKind.i64 t1, Value.int IntKind.i64 t2] 23)) = w19 := ⟨_, rfl⟩
  rw [hw_19]
  have hl_19 : Later w18 w19 := by rw [← hw_19]; exact (Kin.Below.allocC (Below.refl _ _) (Nat.le_refl _))
  have t0_19 : w19.cell? ⟨w18.heap.size, 0, none⟩ = some (.int .i64 t1) := by rw [← hw_19]; simp [go_sem]
  have t1_19 : w19.cell? ⟨w18.heap.size, 1, none⟩ = some (.int .i64 t2) := by rw [← hw_19]; simp [go_sem]
  have hy_19 : w18.heap.size + 1 = w19.heap.size := by rw [← hw_19]; simp
  clear hw_19
  have a0_19 := Later.cell hl_19 a0_18
  have a1_19 := Later.cell hl_19 a1_18
  have b0_19 := Later.cell hl_19 b0_18
  have b1_19 := Later.cell hl_19 b1_18
  have c0_19 := Later.cell hl_19 c0_18
  have c1_19 := Later.cell hl_19 c1_18
  have ab0_19 := Later.cell hl_19 ab0_18
  have ab1_19 := Later.cell hl_19 ab1_18
  have ba0_19 := Later.cell hl_19 ba0_18
  have ba1_19 := Later.cell hl_19 ba1_18
  have p0_19 := Later.cell hl_19 p0_18
  have p1_19 := Later.cell hl_19 p1_18
  have q0_19 := Later.cell hl_19 q0_18
  have q1_19 := Later.cell hl_19 q1_18
  have k0_19 := Later.cell hl_19 k0_18
  have k1_19 := Later.cell hl_19 k1_18
  clear lt0_18
  clear lt1_18
  clear lt2_18
  clear lt3_18
  clear lt4_18
  clear lt5_18
  clear lt6_18
  clear lt7_18
  have lt0_19 : w2.heap.size < w19.heap.size := lt_of_cell a0_19
  have lt1_19 : w4.heap.size < w19.heap.size := lt_of_cell b0_19
  have lt2_19 : w6.heap.size < w19.heap.size := lt_of_cell c0_19
  have lt3_19 : w8.heap.size < w19.heap.size := lt_of_cell ab0_19
  have lt4_19 : w10.heap.size < w19.heap.size := lt_of_cell ba0_19
  have lt5_19 : w12.heap.size < w19.heap.size := lt_of_cell p0_19
  have lt6_19 : w14.heap.size < w19.heap.size := lt_of_cell q0_19
  have lt7_19 : w16.heap.size < w19.heap.size := lt_of_cell k0_19
  have hB_19 := Later.below hl_19 hB_18 (by omega)
  have hz_19 := Later.size hl_19
  clear hl_19 a0_18 a1_18 b0_18 b1_18 c0_18 c1_18 ab0_18 ab1_18 ba0_18 ba1_18 p0_18 p1_18 q0_18 q1_18 k0_18 k1_18 hB_18
  refine (opv_AddM F.out.vs vc.out.ok _).mono ?_
  rintro e w20 ⟨rfl, hl_20⟩
  rw [F.out.same.1, F.out.same.2.1, F.out.same.2.2, HE.out]
  have a0_20 := Later.cell hl_20 a0_19
  have a1_20 := Later.cell hl_20 a1_19
  have b0_20 := Later.cell hl_20 b0_19
  have b1_20 := Later.cell hl_20 b1_19
  have c0_20 := Later.cell hl_20 c0_19
  have c1_20 := Later.cell hl_20 c1_19
  have ab0_20 := Later.cell hl_20 ab0_19
  have ab1_20 := Later.cell hl_20 ab1_19
  have ba0_20 := Later.cell hl_20 ba0_19
  have ba1_20 := Later.cell hl_20 ba1_19
  have p0_20 := Later.cell hl_20 p0_19
  have p1_20 := Later.cell hl_20 p1_19
  have q0_20 := Later.cell hl_20 q0_19
  have q1_20 := Later.cell hl_20 q1_19
  have k0_20 := Later.cell hl_20 k0_19
  have k1_20 := Later.cell hl_20 k1_19
  have t0_20 := Later.cell hl_20 t0_19
  have t1_20 := Later.cell hl_20 t1_19
  clear lt0_19
  clear lt1_19
  clear lt2_19
  clear lt3_19
  clear lt4_19
  clear lt5_19
  clear lt6_19
  clear lt7_19
  have lt0_20 : w2.heap.size < w20.heap.size := lt_of_cell a0_20
  have lt1_20 : w4.heap.size < w20.heap.size := lt_of_cell b0_20
  have lt2_20 : w6.heap.size < w20.heap.size := lt_of_cell c0_20
  have lt3_20 : w8.heap.size < w20.heap.size := lt_of_cell ab0_20
  have lt4_20 : w10.heap.size < w20.heap.size := lt_of_cell ba0_20
  have lt5_20 : w12.heap.size < w20.heap.size := lt_of_cell p0_20
  have lt6_20 : w14.heap.size < w20.heap.size := lt_of_cell q0_20
  have lt7_20 : w16.heap.size < w20.heap.size := lt_of_cell k0_20
  have lt8_20 : w18.heap.size < w20.heap.size := lt_of_cell t0_20
  have hB_20 := Later.below hl_20 hB_19 (by omega)
  have hz_20 := Later.size hl_20
  clear hl_20 a0_19 a1_19 b0_19 b1_19 c0_19 c1_19 ab0_19 ab1_19 ba0_19 ba1_19 p0_19 p1_19 q0_19 q1_19 k0_19 k1_19 t0_19 t1_19 hB_19
  go_wp2_with fail
  obtain ⟨w21, hw_21⟩ : ∃ w21, (w20.alloc (Obj.cells #[Value.int IntKind.i64 (mkN (a1 * t2 + t1 * a2) (a2 * t2)), Value.int IntKind.i64 (mkD (a1 * t2 + t1 * a2) (a2 * t2))] 23)) = w21 := ⟨_, rfl⟩
  rw [hw_21]
  have hl_21 : Later w20 w21 := by rw [← hw_21]; exact (Kin.Below.allocC (Below.refl _ _) (Nat.le_refl _))
  have x0_21 : w21.cell? ⟨w20.heap.size, 0, none⟩ = some (.int .i64 (mkN (a1 * t2 + t1 * a2) (a2 * t2))) := by rw [← hw_21]; simp [go_sem]
  have x1_21 : w21.cell? ⟨w20.heap.size, 1, none⟩ = some (.int .i64 (mkD (a1 * t2 + t1 * a2) (a2 * t2))) := by rw [← hw_21]; simp [go_sem]
  have hy_21 : w20.heap.size + 1 = w21.heap.size := by rw [← hw_21]; simp
  clear hw_21
  have a0_21 := Later.cell hl_21 a0_20
  have a1_21 := Later.cell hl_21 a1_20
  have b0_21 := Later.cell hl_21 b0_20
  have b1_21 := Later.cell hl_21 b1_20
  have c0_21 := Later.cell hl_21 c0_20
  have c1_21 := Later.cell hl_21 c1_20
  have ab0_21 := Later.cell hl_21 ab0_20
  have ab1_21 := Later.cell hl_21 ab1_20
  have ba0_21 := Later.cell hl_21 ba0_20
  have ba1_21 := Later.cell hl_21 ba1_20
  have p0_21 := Later.cell hl_21 p0_20
  have p1_21 := Later.cell hl_21 p1_20
  have q0_21 := Later.cell hl_21 q0_20
  have q1_21 := Later.cell hl_21 q1_20
  have k0_21 := Later.cell hl_21 k0_20
  have k1_21 := Later.cell hl_21 k1_20
  have t0_21 := Later.cell hl_21 t0_20
  have t1_21 := Later.cell hl_21 t1_20
  clear lt0_20
  clear lt1_20
  clear lt2_20
  clear lt3_20
  clear lt4_20
  clear lt5_20
  clear lt6_20
  clear lt7_20
  clear lt8_20
  have lt0_21 : w2.heap.size < w21.heap.size := lt_of_cell a0_21
  have lt1_21 : w4.heap.size < w21.heap.size := lt_of_cell b0_21
  have lt2_21 : w6.heap.size < w21.heap.size := lt_of_cell c0_21
  have lt3_21 : w8.heap.size < w21.heap.size := lt_of_cell ab0_21
  have lt4_21 : w10.heap.size < w21.heap.size := lt_of_cell ba0_21
  have lt5_21 : w12.heap.size < w21.heap.size := lt_of_cell p0_21
  have lt6_21 : w14.heap.size < w21.heap.size := lt_of_cell q0_21
  have lt7_21 : w16.heap.size < w21.heap.size := lt_of_cell k0_21
  have lt8_21 : w18.heap.size < w21.heap.size := lt_of_cell t0_21
  have hB_21 := Later.below hl_21 hB_20 (by omega)
  have hz_21 := Later.size hl_21
  clear hl_21 a0_20 a1_20 b0_20 b1_20 c0_20 c1_20 ab0_20 ab1_20 ba0_20 ba1_20 p0_20 p1_20 q0_20 q1_20 k0_20 k1_20 t0_20 t1_20 hB_20
  refine (opv_AddM va.out.ok F.out.vt _).mono ?_
  rintro e w22 ⟨rfl, hl_22⟩
  rw [HE.out]
  have a0_22 := Later.cell hl_22 a0_21
  have a1_22 := Later.cell hl_22 a1_21
  have b0_22 := Later.cell hl_22 b0_21
  have b1_22 := Later.cell hl_22 b1_21
  have c0_22 := Later.cell hl_22 c0_21
  have c1_22 := Later.cell hl_22 c1_21
  have ab0_22 := Later.cell hl_22 ab0_21
  have ab1_22 := Later.cell hl_22 ab1_21
  have ba0_22 := Later.cell hl_22 ba0_21
  have ba1_22 := Later.cell hl_22 ba1_21
  have p0_22 := Later.cell hl_22 p0_21
  have p1_22 := Later.cell hl_22 p1_21
  have q0_22 := Later.cell hl_22 q0_21
  have q1_22 := Later.cell hl_22 q1_21
  have k0_22 := Later.cell hl_22 k0_21
  have k1_22 := Later.cell hl_22 k1_21
  have t0_22 := Later.cell hl_22 t0_21
  have t1_22 := Later.cell hl_22 t1_21
  have x0_22 := Later.cell hl_22 x0_21
  have x1_22 := Later.cell hl_22 x1_21
  clear lt0_21
  clear lt1_21
  clear lt2_21
  clear lt3_21
  clear lt4_21
  clear lt5_21
  clear lt6_21
  clear lt7_21
  clear lt8_21
  have lt0_22 : w2.heap.size < w22.heap.size := lt_of_cell a0_22
  have lt1_22 : w4.heap.size < w22.heap.size := lt_of_cell b0_22
  have lt2_22 : w6.heap.size < w22.heap.size := lt_of_cell c0_22
  have lt3_22 : w8.heap.size < w22.heap.size := lt_of_cell ab0_22
  have lt4_22 : w10.heap.size < w22.heap.size := lt_of_cell ba0_22
  have lt5_22 : w12.heap.size < w22.heap.size := lt_of_cell p0_22
  have lt6_22 : w14.heap.size < w22.heap.size := lt_of_cell q0_22
  have lt7_22 : w16.heap.size < w22.heap.size := lt_of_cell k0_22
  have lt8_22 : w18.heap.size < w22.heap.size := lt_of_cell t0_22
  have lt9_22 : w20.heap.size < w22.heap.size := lt_of_cell x0_22
  have hB_22 := Later.below hl_22 hB_21 (by omega)
  have hz_22 := Later.size hl_22
  clear hl_22 a0_21 a1_21 b0_21 b1_21 c0_21 c1_21 ab0_21 ab1_21 ba0_21 ba1_21 p0_21 p1_21 q0_21 q1_21 k0_21 k1_21 t0_21 t1_21 x0_21 x1_21 hB_21
  go_wp2_with fail
  obtain ⟨w23, hw_23⟩ : ∃ w23, (w22.alloc (Obj.cells #[Value.int IntKind.i64 (mkN (a1 * t2 + t1 * a2) (a2 * t2)), Value.int IntKind.i64 (mkD (a1 * t2 + t1 * a2) (a2 * t2))] 23)) = w23 := ⟨_, rfl⟩
  rw [hw_23]
  have hl_23 : Later w22 w23 := by rw [← hw_23]; exact (Kin.Below.allocC (Below.refl _ _) (Nat.le_refl _))
  have y0_23 : w23.cell? ⟨w22.heap.size, 0, none⟩ = some (.int .i64 (mkN (a1 * t2 + t1 * a2) (a2 * t2))) := by rw [← hw_23]; simp [go_sem]
  have y1_23 : w23.cell? ⟨w22.heap.size, 1, none⟩ = some (.int .i64 (mkD (a1 * t2 + t1 * a2) (a2 * t2))) := by rw [← hw_23]; simp [go_sem]
  have hy_23 : w22.heap.size + 1 = w23.heap.size := by rw [← hw_23]; simp
  clear hw_23
  have a0_23 := Later.cell hl_23 a0_22
  have a1_23 := Later.cell hl_23 a1_22
  have b0_23 := Later.cell hl_23 b0_22
  have b1_23 := Later.cell hl_23 b1_22
  have c0_23 := Later.cell hl_23 c0_22
  have c1_23 := Later.cell hl_23 c1_22
  have ab0_23 := Later.cell hl_23 ab0_22
  have ab1_23 := Later.cell hl_23 ab1_22
  have ba0_23 := Later.cell hl_23 ba0_22
  have ba1_23 := Later.cell hl_23 ba1_22
  have p0_23 := Later.cell hl_23 p0_22
  have p1_23 := Later.cell hl_23 p1_22
  have q0_23 := Later.cell hl_23 q0_22
  have q1_23 := Later.cell hl_23 q1_22
  have k0_23 := Later.cell hl_23 k0_22
  have k1_23 := Later.cell hl_23 k1_22
  have t0_23 := Later.cell hl_23 t0_22
  have t1_23 := Later.cell hl_23 t1_22
  have x0_23 := Later.cell hl_23 x0_22
  have x1_23 := Later.cell hl_23 x1_22
  clear lt0_22
  clear lt1_22
  clear lt2_22
  clear lt3_22
  clear lt4_22
  clear lt5_22
  clear lt6_22
  clear lt7_22
  clear lt8_22
  clear lt9_22
  have lt0_23 : w2.heap.size < w23.heap.size := lt_of_cell a0_23
  have lt1_23 : w4.heap.size < w23.heap.size := lt_of_cell b0_23
  have lt2_23 : w6.heap.size < w23.heap.size := lt_of_cell c0_23
  have lt3_23 : w8.heap.size < w23.heap.size := lt_of_cell ab0_23
  have lt4_23 : w10.heap.size < w23.heap.size := lt_of_cell ba0_23
  have lt5_23 : w12.heap.size < w23.heap.size := lt_of_cell p0_23
  have lt6_23 : w14.heap.size < w23.heap.size := lt_of_cell q0_23
  have lt7_23 : w16.heap.size < w23.heap.size := lt_of_cell k0_23
  have lt8_23 : w18.heap.size < w23.heap.size := lt_of_cell t0_23
  have lt9_23 : w20.heap.size < w23.heap.size := lt_of_cell x0_23
  have hB_23 := Later.below hl_23 hB_22 (by omega)
  have hz_23 := Later.size hl_23
  clear hl_23 a0_22 a1_22 b0_22 b1_22 c0_22 c1_22 ab0_22 ab1_22 ba0_22 ba1_22 p0_22 p1_22 q0_22 q1_22 k0_22 k1_22 t0_22 t1_22 x0_22 x1_22 hB_22
  refine (opv_Mul F.out.vp vc.out.ok F.out.pc _).mono ?_
  rintro e w24 ⟨rfl, hl_24⟩
  have a0_24 := Later.cell hl_24 a0_23
  have a1_24 := Later.cell hl_24 a1_23
  have b0_24 := Later.cell hl_24 b0_23
  have b1_24 := Later.cell hl_24 b1_23
  have c0_24 := Later.cell hl_24 c0_23
  have c1_24 := Later.cell hl_24 c1_23
  have ab0_24 := Later.cell hl_24 ab0_23
  have ab1_24 := Later.cell hl_24 ab1_23
  have ba0_24 := Later.cell hl_24 ba0_23
  have ba1_24 := Later.cell hl_24 ba1_23
  have p0_24 := Later.cell hl_24 p0_23
  have p1_24 := Later.cell hl_24 p1_23
  have q0_24 := Later.cell hl_24 q0_23
  have q1_24 := Later.cell hl_24 q1_23
  have k0_24 := Later.cell hl_24 k0_23
  have k1_24 := Later.cell hl_24 k1_23
  have t0_24 := Later.cell hl_24 t0_23
  have t1_24 := Later.cell hl_24 t1_23
  have x0_24 := Later.cell hl_24 x0_23
  have x1_24 := Later.cell hl_24 x1_23
  have y0_24 := Later.cell hl_24 y0_23
  have y1_24 := Later.cell hl_24 y1_23
  clear lt0_23
  clear lt1_23
  clear lt2_23
  clear lt3_23
  clear lt4_23
  clear lt5_23
  clear lt6_23
  clear lt7_23
  clear lt8_23
  clear lt9_23
  have lt0_24 : w2.heap.size < w24.heap.size := lt_of_cell a0_24
  have lt1_24 : w4.heap.size < w24.heap.size := lt_of_cell b0_24
  have lt2_24 : w6.heap.size < w24.heap.size := lt_of_cell c0_24
  have lt3_24 : w8.heap.size < w24.heap.size := lt_of_cell ab0_24
  have lt4_24 : w10.heap.size < w24.heap.size := lt_of_cell ba0_24
  have lt5_24 : w12.heap.size < w24.heap.size := lt_of_cell p0_24
  have lt6_24 : w14.heap.size < w24.heap.size := lt_of_cell q0_24
  have lt7_24 : w16.heap.size < w24.heap.size := lt_of_cell k0_24
  have lt8_24 : w18.heap.size < w24.heap.size := lt_of_cell t0_24
  have lt9_24 : w20.heap.size < w24.heap.size := lt_of_cell x0_24
  have lt10_24 : w22.heap.size < w24.heap.size := lt_of_cell y0_24
  have hB_24 := Later.below hl_24 hB_23 (by omega)
  have hz_24 := Later.size hl_24
  clear hl_24 a0_23 a1_23 b0_23 b1_23 c0_23 c1_23 ab0_23 ab1_23 ba0_23 ba1_23 p0_23 p1_23 q0_23 q1_23 k0_23 k1_23 t0_23 t1_23 x0_23 x1_23 y0_23 y1_23 hB_23
  go_wp2_with fail
  obtain ⟨w25, hw_25⟩ : ∃ w25, (w24.alloc (Obj.cells #[Value.int IntKind.i64 u1, Value.int IntKind.i64 u2] 23)) = w25 := ⟨_, rfl⟩
  rw [hw_25]
  have hl_25 : Later w24 w25 := by rw [← hw_25]; exact (Kin.Below.allocC (Below.refl _ _) (Nat.le_refl _))
  have pc0_25 : w25.cell? ⟨w24.heap.size, 0, none⟩ = some (.int .i64 u1) := by rw [← hw_25]; simp [go_sem]
  have pc1_25 : w25.cell? ⟨w24.heap.size, 1, none⟩ = some (.int .i64 u2) := by rw [← hw_25]; simp [go_sem]
  have hy_25 : w24.heap.size + 1 = w25.heap.size := by rw [← hw_25]; simp
  clear hw_25
  have a0_25 := Later.cell hl_25 a0_24
  have a1_25 := Later.cell hl_25 a1_24
  have b0_25 := Later.cell hl_25 b0_24
  have b1_25 := Later.cell hl_25 b1_24
  have c0_25 := Later.cell hl_25 c0_24
  have c1_25 := Later.cell hl_25 c1_24
  have ab0_25 := Later.cell hl_25 ab0_24
  have ab1_25 := Later.cell hl_25 ab1_24
  have ba0_25 := Later.cell hl_25 ba0_24
  have ba1_25 := Later.cell hl_25 ba1_24
  have p0_25 := Later.cell hl_25 p0_24
  have p1_25 := Later.cell hl_25 p1_24
  have q0_25 := Later.cell hl_25 q0_24
  have q1_25 := Later.cell hl_25 q1_24
  have k0_25 := Later.cell hl_25 k0_24
  have k1_25 := Later.cell hl_25 k1_24
  have t0_25 := Later.cell hl_25 t0_24
  have t1_25 := Later.cell hl_25 t1_24
  have x0_25 := Later.cell hl_25 x0_24
  have x1_25 := Later.cell hl_25 x1_24
  have y0_25 := Later.cell hl_25 y0_24
  have y1_25 := Later.cell hl_25 y1_24
  clear lt0_24
  clear lt1_24
  clear lt2_24
  clear lt3_24
  clear lt4_24
  clear lt5_24
  clear lt6_24
  clear lt7_24
  clear lt8_24
  clear lt9_24
  clear lt10_24
  have lt0_25 : w2.heap.size < w25.heap.size := lt_of_cell a0_25
  have lt1_25 : w4.heap.size < w25.heap.size := lt_of_cell b0_25
  have lt2_25 : w6.heap.size < w25.heap.size := lt_of_cell c0_25
  have lt3_25 : w8.heap.size < w25.heap.size := lt_of_cell ab0_25
  have lt4_25 : w10.heap.size < w25.heap.size := lt_of_cell ba0_25
  have lt5_25 : w12.heap.size < w25.heap.size := lt_of_cell p0_25
  have lt6_25 : w14.heap.size < w25.heap.size := lt_of_cell q0_25
  have lt7_25 : w16.heap.size < w25.heap.size := lt_of_cell k0_25
  have lt8_25 : w18.heap.size < w25.heap.size := lt_of_cell t0_25
  have lt9_25 : w20.heap.size < w25.heap.size := lt_of_cell x0_25
  have lt10_25 : w22.heap.size < w25.heap.size := lt_of_cell y0_25
  have hB_25 := Later.below hl_25 hB_24 (by omega)
  have hz_25 := Later.size hl_25
  clear hl_25 a0_24 a1_24 b0_24 b1_24 c0_24 c1_24 ab0_24 ab1_24 ba0_24 ba1_24 p0_24 p1_24 q0_24 q1_24 k0_24 k1_24 t0_24 t1_24 x0_24 x1_24 y0_24 y1_24 hB_24
  refine (opv_Mul vb.out.ok vc.out.ok F.out.r _).mono ?_
  rintro e w26 ⟨rfl, hl_26⟩
  have a0_26 := Later.cell hl_26 a0_25
  have a1_26 := Later.cell hl_26 a1_25
  have b0_26 := Later.cell hl_26 b0_25
  have b1_26 := Later.cell hl_26 b1_25
  have c0_26 := Later.cell hl_26 c0_25
  have c1_26 := Later.cell hl_26 c1_25
  have ab0_26 := Later.cell hl_26 ab0_25
  have ab1_26 := Later.cell hl_26 ab1_25
  have ba0_26 := Later.cell hl_26 ba0_25
  have ba1_26 := Later.cell hl_26 ba1_25
  have p0_26 := Later.cell hl_26 p0_25
  have p1_26 := Later.cell hl_26 p1_25
  have q0_26 := Later.cell hl_26 q0_25
  have q1_26 := Later.cell hl_26 q1_25
  have k0_26 := Later.cell hl_26 k0_25
  have k1_26 := Later.cell hl_26 k1_25
  have t0_26 := Later.cell hl_26 t0_25
  have t1_26 := Later.cell hl_26 t1_25
  have x0_26 := Later.cell hl_26 x0_25
  have x1_26 := Later.cell hl_26 x1_25
  have y0_26 := Later.cell hl_26 y0_25
  have y1_26 := Later.cell hl_26 y1_25
  have pc0_26 := Later.cell hl_26 pc0_25
  have pc1_26 := Later.cell hl_26 pc1_25
  clear lt0_25
  clear lt1_25
  clear lt2_25
  clear lt3_25
  clear lt4_25
  clear lt5_25
  clear lt6_25
  clear lt7_25
  clear lt8_25
  clear lt9_25
  clear lt10_25
  have lt0_26 : w2.heap.size < w26.heap.size := lt_of_cell a0_26
  have lt1_26 : w4.heap.size < w26.heap.size := lt_of_cell b0_26
  have lt2_26 : w6.heap.size < w26.heap.size := lt_of_cell c0_26
  have lt3_26 : w8.heap.size < w26.heap.size := lt_of_cell ab0_26
  have lt4_26 : w10.heap.size < w26.heap.size := lt_of_cell ba0_26
  have lt5_26 : w12.heap.size < w26.heap.size := lt_of_cell p0_26
  have lt6_26 : w14.heap.size < w26.heap.size := lt_of_cell q0_26
  have lt7_26 : w16.heap.size < w26.heap.size := lt_of_cell k0_26
  have lt8_26 : w18.heap.size < w26.heap.size := lt_of_cell t0_26
  have lt9_26 : w20.heap.size < w26.heap.size := lt_of_cell x0_26
  have lt10_26 : w22.heap.size < w26.heap.size := lt_of_cell y0_26
  have lt11_26 : w24.heap.size < w26.heap.size := lt_of_cell pc0_26
  have hB_26 := Later.below hl_26 hB_25 (by omega)
  have hz_26 := Later.size hl_26
  clear hl_26 a0_25 a1_25 b0_25 b1_25 c0_25 c1_25 ab0_25 ab1_25 ba0_25 ba1_25 p0_25 p1_25 q0_25 q1_25 k0_25 k1_25 t0_25 t1_25 x0_25 x1_25 y0_25 y1_25 pc0_25 pc1_25 hB_25
  go_wp2_with fail
  obtain ⟨w27, hw_27⟩ : ∃ w27, (w26.alloc (Obj.cells #[Value.int IntKind.i64 r1, Value.int IntKind.i64 r2] 23)) = w27 := ⟨_, rfl⟩
  rw [hw_27]
  have hl_27 : Later w26 w27 := by rw [← hw_27]; exact (Kin.Below.allocC (Below.refl _ _) (Nat.le_refl _))
  have r0_27 : w27.cell? ⟨w26.heap.size, 0, none⟩ = some (.int .i64 r1) := by rw [← hw_27]; simp [go_sem]
  have r1_27 : w27.cell? ⟨w26.heap.size, 1, none⟩ = some (.int .i64 r2) := by rw [← hw_27]; simp [go_sem]
  have hy_27 : w26.heap.size + 1 = w27.heap.size := by rw [← hw_27]; simp
  clear hw_27
  have a0_27 := Later.cell hl_27 a0_26
  have a1_27 := Later.cell hl_27 a1_26
  have b0_27 := Later.cell hl_27 b0_26
  have b1_27 := Later.cell hl_27 b1_26
  have c0_27 := Later.cell hl_27 c0_26
  have c1_27 := Later.cell hl_27 c1_26
  have ab0_27 := Later.cell hl_27 ab0_26
  have ab1_27 := Later.cell hl_27 ab1_26
  have ba0_27 := Later.cell hl_27 ba0_26
  have ba1_27 := Later.cell hl_27 ba1_26
  have p0_27 := Later.cell hl_27 p0_26
  have p1_27 := Later.cell hl_27 p1_26
  have q0_27 := Later.cell hl_27 q0_26
  have q1_27 := Later.cell hl_27 q1_26
  have k0_27 := Later.cell hl_27 k0_26
  have k1_27 := Later.cell hl_27 k1_26
  have t0_27 := Later.cell hl_27 t0_26
  have t1_27 := Later.cell hl_27 t1_26
  have x0_27 := Later.cell hl_27 x0_26
  have x1_27 := Later.cell hl_27 x1_26
  have y0_27 := Later.cell hl_27 y0_26
  have y1_27 := Later.cell hl_27 y1_26
  have pc0_27 := Later.cell hl_27 pc0_26
  have pc1_27 := Later.cell hl_27 pc1_26
  clear lt0_26
  clear lt1_26
  clear lt2_26
  clear lt3_26
  clear lt4_26
  clear lt5_26
  clear lt6_26
  clear lt7_26
  clear lt8_26
  clear lt9_26
  clear lt10_26
  clear lt11_26
  have lt0_27 : w2.heap.size < w27.heap.size := lt_of_cell a0_27
  have lt1_27 : w4.heap.size < w27.heap.size := lt_of_cell b0_27
  have lt2_27 : w6.heap.size < w27.heap.size := lt_of_cell c0_27
  have lt3_27 : w8.heap.size < w27.heap.size := lt_of_cell ab0_27
  have lt4_27 : w10.heap.size < w27.heap.size := lt_of_cell ba0_27
  have lt5_27 : w12.heap.size < w27.heap.size := lt_of_cell p0_27
  have lt6_27 : w14.heap.size < w27.heap.size := lt_of_cell q0_27
  have lt7_27 : w16.heap.size < w27.heap.size := lt_of_cell k0_27
  have lt8_27 : w18.heap.size < w27.heap.size := lt_of_cell t0_27
  have lt9_27 : w20.heap.size < w27.heap.size := lt_of_cell x0_27
  have lt10_27 : w22.heap.size < w27.heap.size := lt_of_cell y0_27
  have lt11_27 : w24.heap.size < w27.heap.size := lt_of_cell pc0_27
  have hB_27 := Later.below hl_27 hB_26 (by omega)
  have hz_27 := Later.size hl_27
  clear hl_27 a0_26 a1_26 b0_26 b1_26 c0_26 c1_26 ab0_26 ab1_26 ba0_26 ba1_26 p0_26 p1_26 q0_26 q1_26 k0_26 k1_26 t0_26 t1_26 x0_26 x1_26 y0_26 y1_26 pc0_26 pc1_26 hB_26
  refine (opv_Mul va.out.ok F.out.vr F.out.ar _).mono ?_
  rintro e w28 ⟨rfl, hl_28⟩
  have a0_28 := Later.cell hl_28 a0_27
  have a1_28 := Later.cell hl_28 a1_27
  have b0_28 := Later.cell hl_28 b0_27
  have b1_28 := Later.cell hl_28 b1_27
  have c0_28 := Later.cell hl_28 c0_27
  have c1_28 := Later.cell hl_28 c1_27
  have ab0_28 := Later.cell hl_28 ab0_27
  have ab1_28 := Later.cell hl_28 ab1_27
  have ba0_28 := Later.cell hl_28 ba0_27
  have ba1_28 := Later.cell hl_28 ba1_27
  have p0_28 := Later.cell hl_28 p0_27
  have p1_28 := Later.cell hl_28 p1_27
  have q0_28 := Later.cell hl_28 q0_27
  have q1_28 := Later.cell hl_28 q1_27
  have k0_28 := Later.cell hl_28 k0_27
  have k1_28 := Later.cell hl_28 k1_27
  have t0_28 := Later.cell hl_28 t0_27
  have t1_28 := Later.cell hl_28 t1_27
  have x0_28 := Later.cell hl_28 x0_27
  have x1_28 := Later.cell hl_28 x1_27
  have y0_28 := Later.cell hl_28 y0_27
  have y1_28 := Later.cell hl_28 y1_27
  have pc0_28 := Later.cell hl_28 pc0_27
  have pc1_28 := Later.cell hl_28 pc1_27
  have r0_28 := Later.cell hl_28 r0_27
  have r1_28 := Later.cell hl_28 r1_27
  clear lt0_27
  clear lt1_27
  clear lt2_27
  clear lt3_27
  clear lt4_27
  clear lt5_27
  clear lt6_27
  clear lt7_27
  clear lt8_27
  clear lt9_27
  clear lt10_27
  clear lt11_27
  have lt0_28 : w2.heap.size < w28.heap.size := lt_of_cell a0_28
  have lt1_28 : w4.heap.size < w28.heap.size := lt_of_cell b0_28
  have lt2_28 : w6.heap.size < w28.heap.size := lt_of_cell c0_28
  have lt3_28 : w8.heap.size < w28.heap.size := lt_of_cell ab0_28
  have lt4_28 : w10.heap.size < w28.heap.size := lt_of_cell ba0_28
  have lt5_28 : w12.heap.size < w28.heap.size := lt_of_cell p0_28
  have lt6_28 : w14.heap.size < w28.heap.size := lt_of_cell q0_28
  have lt7_28 : w16.heap.size < w28.heap.size := lt_of_cell k0_28
  have lt8_28 : w18.heap.size < w28.heap.size := lt_of_cell t0_28
  have lt9_28 : w20.heap.size < w28.heap.size := lt_of_cell x0_28
  have lt10_28 : w22.heap.size < w28.heap.size := lt_of_cell y0_28
  have lt11_28 : w24.heap.size < w28.heap.size := lt_of_cell pc0_28
  have lt12_28 : w26.heap.size < w28.heap.size := lt_of_cell r0_28
  have hB_28 := Later.below hl_28 hB_27 (by omega)
  have hz_28 := Later.size hl_28
  clear hl_28 a0_27 a1_27 b0_27 b1_27 c0_27 c1_27 ab0_27 ab1_27 ba0_27 ba1_27 p0_27 p1_27 q0_27 q1_27 k0_27 k1_27 t0_27 t1_27 x0_27 x1_27 y0_27 y1_27 pc0_27 pc1_27 r0_27 r1_27 hB_27
  go_wp2_with fail
  obtain ⟨w29, hw_29⟩ : ∃ w29, ((w28.alloc (Obj.cells #[Value.int IntKind.i64 u1, Value.int IntKind.i64 u2] 23)).alloc (Obj.cells #[Value.int IntKind.i64 0, Value.int IntKind.i64 0, Value.int IntKind.i64 0, Value.int IntKind.i64 0, Value.int IntKind.i64 0, Value.int IntKind.i64 0, Value.int IntKind.i64 0, Value.int IntKind.i64 0, Value.int IntKind.i64 0] 25)) = w29 := ⟨_, rfl⟩
  rw [hw_29]
  have hl_29 : Later w28 w29 := by rw [← hw_29]; exact (Kin.Below.allocC (Kin.Below.allocC (Below.refl _ _) (Nat.le_refl _)) (by simp))
  have ar0_29 : w29.cell? ⟨w28.heap.size, 0, none⟩ = some (.int .i64 u1) := by rw [← hw_29]; simp [go_sem]
  have ar1_29 : w29.cell? ⟨w28.heap.size, 1, none⟩ = some (.int .i64 u2) := by rw [← hw_29]; simp [go_sem]
  have l0_29 : w29.cell? ⟨w28.heap.size + 1, 0, none⟩ = some (.int .i64 0) := by rw [← hw_29]; simp [go_sem]
  have l1_29 : w29.cell? ⟨w28.heap.size + 1, 1, none⟩ = some (.int .i64 0) := by rw [← hw_29]; simp [go_sem]
  have l2_29 : w29.cell? ⟨w28.heap.size + 1, 2, none⟩ = some (.int .i64 0) := by rw [← hw_29]; simp [go_sem]
  have l3_29 : w29.cell? ⟨w28.heap.size + 1, 3, none⟩ = some (.int .i64 0) := by rw [← hw_29]; simp [go_sem]
  have l4_29 : w29.cell? ⟨w28.heap.size + 1, 4, none⟩ = some (.int .i64 0) := by rw [← hw_29]; simp [go_sem]
  have l5_29 : w29.cell? ⟨w28.heap.size + 1, 5, none⟩ = some (.int .i64 0) := by rw [← hw_29]; simp [go_sem]
  have l6_29 : w29.cell? ⟨w28.heap.size + 1, 6, none⟩ = some (.int .i64 0) := by rw [← hw_29]; simp [go_sem]
  have l7_29 : w29.cell? ⟨w28.heap.size + 1, 7, none⟩ = some (.int .i64 0) := by rw [← hw_29]; simp [go_sem]
  have l8_29 : w29.cell? ⟨w28.heap.size + 1, 8, none⟩ = some (.int .i64 0) := by rw [← hw_29]; simp [go_sem]
  have hy_29 : w28.heap.size + 2 = w29.heap.size := by rw [← hw_29]; simp
  clear hw_29
  have a0_29 := Later.cell hl_29 a0_28
  have a1_29 := Later.cell hl_29 a1_28
  have b0_29 := Later.cell hl_29 b0_28
  have b1_29 := Later.cell hl_29 b1_28
  have c0_29 := Later.cell hl_29 c0_28
  have c1_29 := Later.cell hl_29 c1_28
  have ab0_29 := Later.cell hl_29 ab0_28
  have ab1_29 := Later.cell hl_29 ab1_28
  have ba0_29 := Later.cell hl_29 ba0_28
  have ba1_29 := Later.cell hl_29 ba1_28
  have p0_29 := Later.cell hl_29 p0_28
  have p1_29 := Later.cell hl_29 p1_28
  have q0_29 := Later.cell hl_29 q0_28
  have q1_29 := Later.cell hl_29 q1_28
  have k0_29 := Later.cell hl_29 k0_28
  have k1_29 := Later.cell hl_29 k1_28
  have t0_29 := Later.cell hl_29 t0_28
  have t1_29 := Later.cell hl_29 t1_28
  have x0_29 := Later.cell hl_29 x0_28
  have x1_29 := Later.cell hl_29 x1_28
  have y0_29 := Later.cell hl_29 y0_28
  have y1_29 := Later.cell hl_29 y1_28
  have pc0_29 := Later.cell hl_29 pc0_28
  have pc1_29 := Later.cell hl_29 pc1_28
  have r0_29 := Later.cell hl_29 r0_28
  have r1_29 := Later.cell hl_29 r1_28
  clear lt0_28
  clear lt1_28
  clear lt2_28
  clear lt3_28
  clear lt4_28
  clear lt5_28
  clear lt6_28
  clear lt7_28
  clear lt8_28
  clear lt9_28
  clear lt10_28
  clear lt11_28
  clear lt12_28
  have lt0_29 : w2.heap.size < w29.heap.size := lt_of_cell a0_29
  have lt1_29 : w4.heap.size < w29.heap.size := lt_of_cell b0_29
  have lt2_29 : w6.heap.size < w29.heap.size := lt_of_cell c0_29
  have lt3_29 : w8.heap.size < w29.heap.size := lt_of_cell ab0_29
  have lt4_29 : w10.heap.size < w29.heap.size := lt_of_cell ba0_29
  have lt5_29 : w12.heap.size < w29.heap.size := lt_of_cell p0_29
  have lt6_29 : w14.heap.size < w29.heap.size := lt_of_cell q0_29
  have lt7_29 : w16.heap.size < w29.heap.size := lt_of_cell k0_29
  have lt8_29 : w18.heap.size < w29.heap.size := lt_of_cell t0_29
  have lt9_29 : w20.heap.size < w29.heap.size := lt_of_cell x0_29
  have lt10_29 : w22.heap.size < w29.heap.size := lt_of_cell y0_29
  have lt11_29 : w24.heap.size < w29.heap.size := lt_of_cell pc0_29
  have lt12_29 : w26.heap.size < w29.heap.size := lt_of_cell r0_29
  have hB_29 := Later.below hl_29 hB_28 (by omega)
  have hz_29 := Later.size hl_29
  clear hl_29 a0_28 a1_28 b0_28 b1_28 c0_28 c1_28 ab0_28 ab1_28 ba0_28 ba1_28 p0_28 p1_28 q0_28 q1_28 k0_28 k1_28 t0_28 t1_28 x0_28 x1_28 y0_28 y1_28 pc0_28 pc1_28 r0_28 r1_28 hB_28
  refine (all_zero _ 9 9 _ (by omega) (fun i hi => by match i, hi with | 0, _ => assumption | 1, _ => assumption | 2, _ => assumption | 3, _ => assumption | 4, _ => assumption | 5, _ => assumption | 6, _ => assumption | 7, _ => assumption | 8, _ => assumption)).mono ?_
  rintro e w' ⟨rfl, rfl⟩
  clear l0_29
  clear l1_29
  clear l2_29
  clear l3_29
  clear l4_29
  clear l5_29
  clear l6_29
  clear l7_29
  clear l8_29
  rcases HLim.out with rfl | rfl
  all_goals
    go_wp2_with fail
    refine (opv_Mul va.out.ok F.out.vt F.out.abc _).mono ?_
    rintro e w30 ⟨rfl, hl_30⟩
    have a0_30 := Later.cell hl_30 a0_29
    have a1_30 := Later.cell hl_30 a1_29
    have b0_30 := Later.cell hl_30 b0_29
    have b1_30 := Later.cell hl_30 b1_29
    have c0_30 := Later.cell hl_30 c0_29
    have c1_30 := Later.cell hl_30 c1_29
    have ab0_30 := Later.cell hl_30 ab0_29
    have ab1_30 := Later.cell hl_30 ab1_29
    have ba0_30 := Later.cell hl_30 ba0_29
    have ba1_30 := Later.cell hl_30 ba1_29
    have p0_30 := Later.cell hl_30 p0_29
    have p1_30 := Later.cell hl_30 p1_29
    have q0_30 := Later.cell hl_30 q0_29
    have q1_30 := Later.cell hl_30 q1_29
    have k0_30 := Later.cell hl_30 k0_29
    have k1_30 := Later.cell hl_30 k1_29
    have t0_30 := Later.cell hl_30 t0_29
    have t1_30 := Later.cell hl_30 t1_29
    have x0_30 := Later.cell hl_30 x0_29
    have x1_30 := Later.cell hl_30 x1_29
    have y0_30 := Later.cell hl_30 y0_29
    have y1_30 := Later.cell hl_30 y1_29
    have pc0_30 := Later.cell hl_30 pc0_29
    have pc1_30 := Later.cell hl_30 pc1_29
    have r0_30 := Later.cell hl_30 r0_29
    have r1_30 := Later.cell hl_30 r1_29
    have ar0_30 := Later.cell hl_30 ar0_29
    have ar1_30 := Later.cell hl_30 ar1_29
    clear lt0_29
    clear lt1_29
    clear lt2_29
    clear lt3_29
    clear lt4_29
    clear lt5_29
    clear lt6_29
    clear lt7_29
    clear lt8_29
    clear lt9_29
    clear lt10_29
    clear lt11_29
    clear lt12_29
    have lt0_30 : w2.heap.size < w30.heap.size := lt_of_cell a0_30
    have lt1_30 : w4.heap.size < w30.heap.size := lt_of_cell b0_30
    have lt2_30 : w6.heap.size < w30.heap.size := lt_of_cell c0_30
    have lt3_30 : w8.heap.size < w30.heap.size := lt_of_cell ab0_30
    have lt4_30 : w10.heap.size < w30.heap.size := lt_of_cell ba0_30
    have lt5_30 : w12.heap.size < w30.heap.size := lt_of_cell p0_30
    have lt6_30 : w14.heap.size < w30.heap.size := lt_of_cell q0_30
    have lt7_30 : w16.heap.size < w30.heap.size := lt_of_cell k0_30
    have lt8_30 : w18.heap.size < w30.heap.size := lt_of_cell t0_30
    have lt9_30 : w20.heap.size < w30.heap.size := lt_of_cell x0_30
    have lt10_30 : w22.heap.size < w30.heap.size := lt_of_cell y0_30
    have lt11_30 : w24.heap.size < w30.heap.size := lt_of_cell pc0_30
    have lt12_30 : w26.heap.size < w30.heap.size := lt_of_cell r0_30
    have lt13_30 : w28.heap.size < w30.heap.size := lt_of_cell ar0_30
    have hB_30 := Later.below hl_30 hB_29 (by omega)
    have hz_30 := Later.size hl_30
    clear hl_30 a0_29 a1_29 b0_29 b1_29 c0_29 c1_29 ab0_29 ab1_29 ba0_29 ba1_29 p0_29 p1_29 q0_29 q1_29 k0_29 k1_29 t0_29 t1_29 x0_29 x1_29 y0_29 y1_29 pc0_29 pc1_29 r0_29 r1_29 ar0_29 ar1_29 hB_29
    go_wp2_with fail
    obtain ⟨w31, hw_31⟩ : ∃ w31, (w30.alloc (Obj.cells #[Value.int IntKind.i64 x1, Value.int IntKind.i64 x2] 23)) = w31 := ⟨_, rfl⟩
    rw [hw_31]
    have hl_31 : Later w30 w31 := by rw [← hw_31]; exact (Kin.Below.allocC (Below.refl _ _) (Nat.le_refl _))
    have abc0_31 : w31.cell? ⟨w30.heap.size, 0, none⟩ = some (.int .i64 x1) := by rw [← hw_31]; simp [go_sem]
    have abc1_31 : w31.cell? ⟨w30.heap.size, 1, none⟩ = some (.int .i64 x2) := by rw [← hw_31]; simp [go_sem]
    have hy_31 : w30.heap.size + 1 = w31.heap.size := by rw [← hw_31]; simp
    clear hw_31
    have a0_31 := Later.cell hl_31 a0_30
    have a1_31 := Later.cell hl_31 a1_30
    have b0_31 := Later.cell hl_31 b0_30
    have b1_31 := Later.cell hl_31 b1_30
    have c0_31 := Later.cell hl_31 c0_30
    have c1_31 := Later.cell hl_31 c1_30
    have ab0_31 := Later.cell hl_31 ab0_30
    have ab1_31 := Later.cell hl_31 ab1_30
    have ba0_31 := Later.cell hl_31 ba0_30
    have ba1_31 := Later.cell hl_31 ba1_30
    have p0_31 := Later.cell hl_31 p0_30
    have p1_31 := Later.cell hl_31 p1_30
    have q0_31 := Later.cell hl_31 q0_30
    have q1_31 := Later.cell hl_31 q1_30
    have k0_31 := Later.cell hl_31 k0_30
    have k1_31 := Later.cell hl_31 k1_30
    have t0_31 := Later.cell hl_31 t0_30
    have t1_31 := Later.cell hl_31 t1_30
    have x0_31 := Later.cell hl_31 x0_30
    have x1_31 := Later.cell hl_31 x1_30
    have y0_31 := Later.cell hl_31 y0_30
    have y1_31 := Later.cell hl_31 y1_30
    have pc0_31 := Later.cell hl_31 pc0_30
    have pc1_31 := Later.cell hl_31 pc1_30
    have r0_31 := Later.cell hl_31 r0_30
    have r1_31 := Later.cell hl_31 r1_30
    have ar0_31 := Later.cell hl_31 ar0_30
    have ar1_31 := Later.cell hl_31 ar1_30
    clear lt0_30
    clear lt1_30
    clear lt2_30
    clear lt3_30
    clear lt4_30
    clear lt5_30
    clear lt6_30
    clear lt7_30
    clear lt8_30
    clear lt9_30
    clear lt10_30
    clear lt11_30
    clear lt12_30
    clear lt13_30
    have lt0_31 : w2.heap.size < w31.heap.size := lt_of_cell a0_31
    have lt1_31 : w4.heap.size < w31.heap.size := lt_of_cell b0_31
    have lt2_31 : w6.heap.size < w31.heap.size := lt_of_cell c0_31
    have lt3_31 : w8.heap.size < w31.heap.size := lt_of_cell ab0_31
    have lt4_31 : w10.heap.size < w31.heap.size := lt_of_cell ba0_31
    have lt5_31 : w12.heap.size < w31.heap.size := lt_of_cell p0_31
    have lt6_31 : w14.heap.size < w31.heap.size := lt_of_cell q0_31
    have lt7_31 : w16.heap.size < w31.heap.size := lt_of_cell k0_31
    have lt8_31 : w18.heap.size < w31.heap.size := lt_of_cell t0_31
    have lt9_31 : w20.heap.size < w31.heap.size := lt_of_cell x0_31
    have lt10_31 : w22.heap.size < w31.heap.size := lt_of_cell y0_31
    have lt11_31 : w24.heap.size < w31.heap.size := lt_of_cell pc0_31
    have lt12_31 : w26.heap.size < w31.heap.size := lt_of_cell r0_31
    have lt13_31 : w28.heap.size < w31.heap.size := lt_of_cell ar0_31
    have hB_31 := Later.below hl_31 hB_30 (by omega)
    have hz_31 := Later.size hl_31
    clear hl_31 a0_30 a1_30 b0_30 b1_30 c0_30 c1_30 ab0_30 ab1_30 ba0_30 ba1_30 p0_30 p1_30 q0_30 q1_30 k0_30 k1_30 t0_30 t1_30 x0_30 x1_30 y0_30 y1_30 pc0_30 pc1_30 r0_30 r1_30 ar0_30 ar1_30 hB_30
    refine (opv_Mul va.out.ok vc.out.ok F.out.ac _).mono ?_
    rintro e w32 ⟨rfl, hl_32⟩
    have a0_32 := Later.cell hl_32 a0_31
    have a1_32 := Later.cell hl_32 a1_31
    have b0_32 := Later.cell hl_32 b0_31
    have b1_32 := Later.cell hl_32 b1_31
    have c0_32 := Later.cell hl_32 c0_31
    have c1_32 := Later.cell hl_32 c1_31
    have ab0_32 := Later.cell hl_32 ab0_31
    have ab1_32 := Later.cell hl_32 ab1_31
    have ba0_32 := Later.cell hl_32 ba0_31
    have ba1_32 := Later.cell hl_32 ba1_31
    have p0_32 := Later.cell hl_32 p0_31
    have p1_32 := Later.cell hl_32 p1_31
    have q0_32 := Later.cell hl_32 q0_31
    have q1_32 := Later.cell hl_32 q1_31
    have k0_32 := Later.cell hl_32 k0_31
    have k1_32 := Later.cell hl_32 k1_31
    have t0_32 := Later.cell hl_32 t0_31
    have t1_32 := Later.cell hl_32 t1_31
    have x0_32 := Later.cell hl_32 x0_31
    have x1_32 := Later.cell hl_32 x1_31
    have y0_32 := Later.cell hl_32 y0_31
    have y1_32 := Later.cell hl_32 y1_31
    have pc0_32 := Later.cell hl_32 pc0_31
    have pc1_32 := Later.cell hl_32 pc1_31
    have r0_32 := Later.cell hl_32 r0_31
    have r1_32 := Later.cell hl_32 r1_31
    have ar0_32 := Later.cell hl_32 ar0_31
    have ar1_32 := Later.cell hl_32 ar1_31
    have abc0_32 := Later.cell hl_32 abc0_31
    have abc1_32 := Later.cell hl_32 abc1_31
    clear lt0_31
    clear lt1_31
    clear lt2_31
    clear lt3_31
    clear lt4_31
    clear lt5_31
    clear lt6_31
    clear lt7_31
    clear lt8_31
    clear lt9_31
    clear lt10_31
    clear lt11_31
    clear lt12_31
    clear lt13_31
    have lt0_32 : w2.heap.size < w32.heap.size := lt_of_cell a0_32
    have lt1_32 : w4.heap.size < w32.heap.size := lt_of_cell b0_32
    have lt2_32 : w6.heap.size < w32.heap.size := lt_of_cell c0_32
    have lt3_32 : w8.heap.size < w32.heap.size := lt_of_cell ab0_32
    have lt4_32 : w10.heap.size < w32.heap.size := lt_of_cell ba0_32
    have lt5_32 : w12.heap.size < w32.heap.size := lt_of_cell p0_32
    have lt6_32 : w14.heap.size < w32.heap.size := lt_of_cell q0_32
    have lt7_32 : w16.heap.size < w32.heap.size := lt_of_cell k0_32
    have lt8_32 : w18.heap.size < w32.heap.size := lt_of_cell t0_32
    have lt9_32 : w20.heap.size < w32.heap.size := lt_of_cell x0_32
    have lt10_32 : w22.heap.size < w32.heap.size := lt_of_cell y0_32
    have lt11_32 : w24.heap.size < w32.heap.size := lt_of_cell pc0_32
    have lt12_32 : w26.heap.size < w32.heap.size := lt_of_cell r0_32
    have lt13_32 : w28.heap.size < w32.heap.size := lt_of_cell ar0_32
    have lt14_32 : w30.heap.size < w32.heap.size := lt_of_cell abc0_32
    have hB_32 := Later.below hl_32 hB_31 (by omega)
    have hz_32 := Later.size hl_32
    clear hl_32 a0_31 a1_31 b0_31 b1_31 c0_31 c1_31 ab0_31 ab1_31 ba0_31 ba1_31 p0_31 p1_31 q0_31 q1_31 k0_31 k1_31 t0_31 t1_31 x0_31 x1_31 y0_31 y1_31 pc0_31 pc1_31 r0_31 r1_31 ar0_31 ar1_31 abc0_31 abc1_31 hB_31
    go_wp2_with fail
    obtain ⟨w33, hw_33⟩ : ∃ w33, (w32.alloc (Obj.cells #[Value.int IntKind.i64 z1, Value.int IntKind.i64 z2] 23)) = w33 := ⟨_, rfl⟩
    rw [hw_33]
    have hl_33 : Later w32 w33 := by rw [← hw_33]; exact (Kin.Below.allocC (Below.refl _ _) (Nat.le_refl _))
    have ac0_33 : w33.cell? ⟨w32.heap.size, 0, none⟩ = some (.int .i64 z1) := by rw [← hw_33]; simp [go_sem]
    have ac1_33 : w33.cell? ⟨w32.heap.size, 1, none⟩ = some (.int .i64 z2) := by rw [← hw_33]; simp [go_sem]
    have hy_33 : w32.heap.size + 1 = w33.heap.size := by rw [← hw_33]; simp
    clear hw_33
    have a0_33 := Later.cell hl_33 a0_32
    have a1_33 := Later.cell hl_33 a1_32
    have b0_33 := Later.cell hl_33 b0_32
    have b1_33 := Later.cell hl_33 b1_32
    have c0_33 := Later.cell hl_33 c0_32
    have c1_33 := Later.cell hl_33 c1_32
    have ab0_33 := Later.cell hl_33 ab0_32
    have ab1_33 := Later.cell hl_33 ab1_32
    have ba0_33 := Later.cell hl_33 ba0_32
    have ba1_33 := Later.cell hl_33 ba1_32
    have p0_33 := Later.cell hl_33 p0_32
    have p1_33 := Later.cell hl_33 p1_32
    have q0_33 := Later.cell hl_33 q0_32
    have q1_33 := Later.cell hl_33 q1_32
    have k0_33 := Later.cell hl_33 k0_32
    have k1_33 := Later.cell hl_33 k1_32
    have t0_33 := Later.cell hl_33 t0_32
    have t1_33 := Later.cell hl_33 t1_32
    have x0_33 := Later.cell hl_33 x0_32
    have x1_33 := Later.cell hl_33 x1_32
    have y0_33 := Later.cell hl_33 y0_32
    have y1_33 := Later.cell hl_33 y1_32
    have pc0_33 := Later.cell hl_33 pc0_32
    have pc1_33 := Later.cell hl_33 pc1_32
    have r0_33 := Later.cell hl_33 r0_32
    have r1_33 := Later.cell hl_33 r1_32
    have ar0_33 := Later.cell hl_33 ar0_32
    have ar1_33 := Later.cell hl_33 ar1_32
    have abc0_33 := Later.cell hl_33 abc0_32
    have abc1_33 := Later.cell hl_33 abc1_32
    clear lt0_32
    clear lt1_32
    clear lt2_32
    clear lt3_32
    clear lt4_32
    clear lt5_32
    clear lt6_32
    clear lt7_32
    clear lt8_32
    clear lt9_32
    clear lt10_32
    clear lt11_32
    clear lt12_32
    clear lt13_32
    clear lt14_32
    have lt0_33 : w2.heap.size < w33.heap.size := lt_of_cell a0_33
    have lt1_33 : w4.heap.size < w33.heap.size := lt_of_cell b0_33
    have lt2_33 : w6.heap.size < w33.heap.size := lt_of_cell c0_33
    have lt3_33 : w8.heap.size < w33.heap.size := lt_of_cell ab0_33
    have lt4_33 : w10.heap.size < w33.heap.size := lt_of_cell ba0_33
    have lt5_33 : w12.heap.size < w33.heap.size := lt_of_cell p0_33
    have lt6_33 : w14.heap.size < w33.heap.size := lt_of_cell q0_33
    have lt7_33 : w16.heap.size < w33.heap.size := lt_of_cell k0_33
    have lt8_33 : w18.heap.size < w33.heap.size := lt_of_cell t0_33
    have lt9_33 : w20.heap.size < w33.heap.size := lt_of_cell x0_33
    have lt10_33 : w22.heap.size < w33.heap.size := lt_of_cell y0_33
    have lt11_33 : w24.heap.size < w33.heap.size := lt_of_cell pc0_33
    have lt12_33 : w26.heap.size < w33.heap.size := lt_of_cell r0_33
    have lt13_33 : w28.heap.size < w33.heap.size := lt_of_cell ar0_33
    have lt14_33 : w30.heap.size < w33.heap.size := lt_of_cell abc0_33
    have hB_33 := Later.below hl_33 hB_32 (by omega)
    have hz_33 := Later.size hl_33
    clear hl_33 a0_32 a1_32 b0_32 b1_32 c0_32 c1_32 ab0_32 ab1_32 ba0_32 ba1_32 p0_32 p1_32 q0_32 q1_32 k0_32 k1_32 t0_32 t1_32 x0_32 x1_32 y0_32 y1_32 pc0_32 pc1_32 r0_32 r1_32 ar0_32 ar1_32 abc0_32 abc1_32 hB_32
    refine (opv_Add F.out.vp F.out.vz F.out.sum _).mono ?_
    rintro e w34 ⟨rfl, hl_34⟩
    have a0_34 := Later.cell hl_34 a0_33
    have a1_34 := Later.cell hl_34 a1_33
    have b0_34 := Later.cell hl_34 b0_33
    have b1_34 := Later.cell hl_34 b1_33
    have c0_34 := Later.cell hl_34 c0_33
    have c1_34 := Later.cell hl_34 c1_33
    have ab0_34 := Later.cell hl_34 ab0_33
    have ab1_34 := Later.cell hl_34 ab1_33
    have ba0_34 := Later.cell hl_34 ba0_33
    have ba1_34 := Later.cell hl_34 ba1_33
    have p0_34 := Later.cell hl_34 p0_33
    have p1_34 := Later.cell hl_34 p1_33
    have q0_34 := Later.cell hl_34 q0_33
    have q1_34 := Later.cell hl_34 q1_33
    have k0_34 := Later.cell hl_34 k0_33
    have k1_34 := Later.cell hl_34 k1_33
    have t0_34 := Later.cell hl_34 t0_33
    have t1_34 := Later.cell hl_34 t1_33
    have x0_34 := Later.cell hl_34 x0_33
    have x1_34 := Later.cell hl_34 x1_33
    have y0_34 := Later.cell hl_34 y0_33
    have y1_34 := Later.cell hl_34 y1_33
    have pc0_34 := Later.cell hl_34 pc0_33
    have pc1_34 := Later.cell hl_34 pc1_33
    have r0_34 := Later.cell hl_34 r0_33
    have r1_34 := Later.cell hl_34 r1_33
    have ar0_34 := Later.cell hl_34 ar0_33
    have ar1_34 := Later.cell hl_34 ar1_33
    have abc0_34 := Later.cell hl_34 abc0_33
    have abc1_34 := Later.cell hl_34 abc1_33
    have ac0_34 := Later.cell hl_34 ac0_33
    have ac1_34 := Later.cell hl_34 ac1_33
    clear lt0_33
    clear lt1_33
    clear lt2_33
    clear lt3_33
    clear lt4_33
    clear lt5_33
    clear lt6_33
    clear lt7_33
    clear lt8_33
    clear lt9_33
    clear lt10_33
    clear lt11_33
    clear lt12_33
    clear lt13_33
    clear lt14_33
    have lt0_34 : w2.heap.size < w34.heap.size := lt_of_cell a0_34
    have lt1_34 : w4.heap.size < w34.heap.size := lt_of_cell b0_34
    have lt2_34 : w6.heap.size < w34.heap.size := lt_of_cell c0_34
    have lt3_34 : w8.heap.size < w34.heap.size := lt_of_cell ab0_34
    have lt4_34 : w10.heap.size < w34.heap.size := lt_of_cell ba0_34
    have lt5_34 : w12.heap.size < w34.heap.size := lt_of_cell p0_34
    have lt6_34 : w14.heap.size < w34.heap.size := lt_of_cell q0_34
    have lt7_34 : w16.heap.size < w34.heap.size := lt_of_cell k0_34
    have lt8_34 : w18.heap.size < w34.heap.size := lt_of_cell t0_34
    have lt9_34 : w20.heap.size < w34.heap.size := lt_of_cell x0_34
    have lt10_34 : w22.heap.size < w34.heap.size := lt_of_cell y0_34
    have lt11_34 : w24.heap.size < w34.heap.size := lt_of_cell pc0_34
    have lt12_34 : w26.heap.size < w34.heap.size := lt_of_cell r0_34
    have lt13_34 : w28.heap.size < w34.heap.size := lt_of_cell ar0_34
    have lt14_34 : w30.heap.size < w34.heap.size := lt_of_cell abc0_34
    have lt15_34 : w32.heap.size < w34.heap.size := lt_of_cell ac0_34
    have hB_34 := Later.below hl_34 hB_33 (by omega)
    have hz_34 := Later.size hl_34
    clear hl_34 a0_33 a1_33 b0_33 b1_33 c0_33 c1_33 ab0_33 ab1_33 ba0_33 ba1_33 p0_33 p1_33 q0_33 q1_33 k0_33 k1_33 t0_33 t1_33 x0_33 x1_33 y0_33 y1_33 pc0_33 pc1_33 r0_33 r1_33 ar0_33 ar1_33 abc0_33 abc1_33 ac0_33 ac1_33 hB_33
    go_wp2_with fail
    obtain ⟨w35, hw_35⟩ : ∃ w35, ((w34.alloc (Obj.cells #[Value.int IntKind.i64 x1, Value.int IntKind.i64 x2] 23)).alloc (Obj.cells #[Value.int IntKind.i64 0, Value.int IntKind.i64 0, Value.int IntKind.i64 0] 25)) = w35 := ⟨_, rfl⟩
    rw [hw_35]
    have hl_35 : Later w34 w35 := by rw [← hw_35]; exact (Kin.Below.allocC (Kin.Below.allocC (Below.refl _ _) (Nat.le_refl _)) (by simp))
    have sum0_35 : w35.cell? ⟨w34.heap.size, 0, none⟩ = some (.int .i64 x1) := by rw [← hw_35]; simp [go_sem]
    have sum1_35 : w35.cell? ⟨w34.heap.size, 1, none⟩ = some (.int .i64 x2) := by rw [← hw_35]; simp [go_sem]
    have l0_35 : w35.cell? ⟨w34.heap.size + 1, 0, none⟩ = some (.int .i64 0) := by rw [← hw_35]; simp [go_sem]
    have l1_35 : w35.cell? ⟨w34.heap.size + 1, 1, none⟩ = some (.int .i64 0) := by rw [← hw_35]; simp [go_sem]
    have l2_35 : w35.cell? ⟨w34.heap.size + 1, 2, none⟩ = some (.int .i64 0) := by rw [← hw_35]; simp [go_sem]
    have hy_35 : w34.heap.size + 2 = w35.heap.size := by rw [← hw_35]; simp
    clear hw_35
    have a0_35 := Later.cell hl_35 a0_34
    have a1_35 := Later.cell hl_35 a1_34
    have b0_35 := Later.cell hl_35 b0_34
    have b1_35 := Later.cell hl_35 b1_34
    have c0_35 := Later.cell hl_35 c0_34
    have c1_35 := Later.cell hl_35 c1_34
    have ab0_35 := Later.cell hl_35 ab0_34
    have ab1_35 := Later.cell hl_35 ab1_34
    have ba0_35 := Later.cell hl_35 ba0_34
    have ba1_35 := Later.cell hl_35 ba1_34
    have p0_35 := Later.cell hl_35 p0_34
    have p1_35 := Later.cell hl_35 p1_34
    have q0_35 := Later.cell hl_35 q0_34
    have q1_35 := Later.cell hl_35 q1_34
    have k0_35 := Later.cell hl_35 k0_34
    have k1_35 := Later.cell hl_35 k1_34
    have t0_35 := Later.cell hl_35 t0_34
    have t1_35 := Later.cell hl_35 t1_34
    have x0_35 := Later.cell hl_35 x0_34
    have x1_35 := Later.cell hl_35 x1_34
    have y0_35 := Later.cell hl_35 y0_34
    have y1_35 := Later.cell hl_35 y1_34
    have pc0_35 := Later.cell hl_35 pc0_34
    have pc1_35 := Later.cell hl_35 pc1_34
    have r0_35 := Later.cell hl_35 r0_34
    have r1_35 := Later.cell hl_35 r1_34
    have ar0_35 := Later.cell hl_35 ar0_34
    have ar1_35 := Later.cell hl_35 ar1_34
    have abc0_35 := Later.cell hl_35 abc0_34
    have abc1_35 := Later.cell hl_35 abc1_34
    have ac0_35 := Later.cell hl_35 ac0_34
    have ac1_35 := Later.cell hl_35 ac1_34
    clear lt0_34
    clear lt1_34
    clear lt2_34
    clear lt3_34
    clear lt4_34
    clear lt5_34
    clear lt6_34
    clear lt7_34
    clear lt8_34
    clear lt9_34
    clear lt10_34
    clear lt11_34
    clear lt12_34
    clear lt13_34
    clear lt14_34
    clear lt15_34
    have lt0_35 : w2.heap.size < w35.heap.size := lt_of_cell a0_35
    have lt1_35 : w4.heap.size < w35.heap.size := lt_of_cell b0_35
    have lt2_35 : w6.heap.size < w35.heap.size := lt_of_cell c0_35
    have lt3_35 : w8.heap.size < w35.heap.size := lt_of_cell ab0_35
    have lt4_35 : w10.heap.size < w35.heap.size := lt_of_cell ba0_35
    have lt5_35 : w12.heap.size < w35.heap.size := lt_of_cell p0_35
    have lt6_35 : w14.heap.size < w35.heap.size := lt_of_cell q0_35
    have lt7_35 : w16.heap.size < w35.heap.size := lt_of_cell k0_35
    have lt8_35 : w18.heap.size < w35.heap.size := lt_of_cell t0_35
    have lt9_35 : w20.heap.size < w35.heap.size := lt_of_cell x0_35
    have lt10_35 : w22.heap.size < w35.heap.size := lt_of_cell y0_35
    have lt11_35 : w24.heap.size < w35.heap.size := lt_of_cell pc0_35
    have lt12_35 : w26.heap.size < w35.heap.size := lt_of_cell r0_35
    have lt13_35 : w28.heap.size < w35.heap.size := lt_of_cell ar0_35
    have lt14_35 : w30.heap.size < w35.heap.size := lt_of_cell abc0_35
    have lt15_35 : w32.heap.size < w35.heap.size := lt_of_cell ac0_35
    have hB_35 := Later.below hl_35 hB_34 (by omega)
    have hz_35 := Later.size hl_35
    clear hl_35 a0_34 a1_34 b0_34 b1_34 c0_34 c1_34 ab0_34 ab1_34 ba0_34 ba1_34 p0_34 p1_34 q0_34 q1_34 k0_34 k1_34 t0_34 t1_34 x0_34 x1_34 y0_34 y1_34 pc0_34 pc1_34 r0_34 r1_34 ar0_34 ar1_34 abc0_34 abc1_34 ac0_34 ac1_34 hB_34
    refine (all_zero _ 3 3 _ (by omega) (fun i hi => by match i, hi with | 0, _ => assumption | 1, _ => assumption | 2, _ => assumption)).mono ?_
    rintro e w' ⟨rfl, rfl⟩
    clear l0_35
    clear l1_35
    clear l2_35
    by_cases hb0 : b1 = 0
    · have hz1 : (b1 == 0) = true := by simp [hb0]
      have HB0 := Lib.hid hb0; clear hb0
      go_wp2_with fail
      refine (opv_Div0 va.out.ok vb.out.ok HB0.out _).mono ?_
      rintro e w36 ⟨rfl, hl_36⟩
      have a0_36 := Later.cell hl_36 a0_35
      have a1_36 := Later.cell hl_36 a1_35
      have b0_36 := Later.cell hl_36 b0_35
      have b1_36 := Later.cell hl_36 b1_35
      have c0_36 := Later.cell hl_36 c0_35
      have c1_36 := Later.cell hl_36 c1_35
      have ab0_36 := Later.cell hl_36 ab0_35
      have ab1_36 := Later.cell hl_36 ab1_35
      have ba0_36 := Later.cell hl_36 ba0_35
      have ba1_36 := Later.cell hl_36 ba1_35
      have p0_36 := Later.cell hl_36 p0_35
      have p1_36 := Later.cell hl_36 p1_35
      have q0_36 := Later.cell hl_36 q0_35
      have q1_36 := Later.cell hl_36 q1_35
      have k0_36 := Later.cell hl_36 k0_35
      have k1_36 := Later.cell hl_36 k1_35
      have t0_36 := Later.cell hl_36 t0_35
      have t1_36 := Later.cell hl_36 t1_35
      have x0_36 := Later.cell hl_36 x0_35
      have x1_36 := Later.cell hl_36 x1_35
      have y0_36 := Later.cell hl_36 y0_35
      have y1_36 := Later.cell hl_36 y1_35
      have pc0_36 := Later.cell hl_36 pc0_35
      have pc1_36 := Later.cell hl_36 pc1_35
      have r0_36 := Later.cell hl_36 r0_35
      have r1_36 := Later.cell hl_36 r1_35
      have ar0_36 := Later.cell hl_36 ar0_35
      have ar1_36 := Later.cell hl_36 ar1_35
      have abc0_36 := Later.cell hl_36 abc0_35
      have abc1_36 := Later.cell hl_36 abc1_35
      have ac0_36 := Later.cell hl_36 ac0_35
      have ac1_36 := Later.cell hl_36 ac1_35
      have sum0_36 := Later.cell hl_36 sum0_35
      have sum1_36 := Later.cell hl_36 sum1_35
      clear lt0_35
      clear lt1_35
      clear lt2_35
      clear lt3_35
      clear lt4_35
      clear lt5_35
      clear lt6_35
      clear lt7_35
      clear lt8_35
      clear lt9_35
      clear lt10_35
      clear lt11_35
      clear lt12_35
      clear lt13_35
      clear lt14_35
      clear lt15_35
      have lt0_36 : w2.heap.size < w36.heap.size := lt_of_cell a0_36
      have lt1_36 : w4.heap.size < w36.heap.size := lt_of_cell b0_36
      have lt2_36 : w6.heap.size < w36.heap.size := lt_of_cell c0_36
      have lt3_36 : w8.heap.size < w36.heap.size := lt_of_cell ab0_36
      have lt4_36 : w10.heap.size < w36.heap.size := lt_of_cell ba0_36
      have lt5_36 : w12.heap.size < w36.heap.size := lt_of_cell p0_36
      have lt6_36 : w14.heap.size < w36.heap.size := lt_of_cell q0_36
      have lt7_36 : w16.heap.size < w36.heap.size := lt_of_cell k0_36
      have lt8_36 : w18.heap.size < w36.heap.size := lt_of_cell t0_36
      have lt9_36 : w20.heap.size < w36.heap.size := lt_of_cell x0_36
      have lt10_36 : w22.heap.size < w36.heap.size := lt_of_cell y0_36
      have lt11_36 : w24.heap.size < w36.heap.size := lt_of_cell pc0_36
      have lt12_36 : w26.heap.size < w36.heap.size := lt_of_cell r0_36
      have lt13_36 : w28.heap.size < w36.heap.size := lt_of_cell ar0_36
      have lt14_36 : w30.heap.size < w36.heap.size := lt_of_cell abc0_36
      have lt15_36 : w32.heap.size < w36.heap.size := lt_of_cell ac0_36
      have lt16_36 : w34.heap.size < w36.heap.size := lt_of_cell sum0_36
      have hB_36 := Later.below hl_36 hB_35 (by omega)
      have hz_36 := Later.size hl_36
      clear hl_36 a0_35 a1_35 b0_35 b1_35 c0_35 c1_35 ab0_35 ab1_35 ba0_35 ba1_35 p0_35 p1_35 q0_35 q1_35 k0_35 k1_35 t0_35 t1_35 x0_35 x1_35 y0_35 y1_35 pc0_35 pc1_35 r0_35 r1_35 ar0_35 ar1_35 abc0_35 abc1_35 ac0_35 ac1_35 sum0_35 sum1_35 hB_35
      go_wp2
      go_ret
      exact ⟨rfl, Kin.Below.allocC hB_36 (by omega)⟩
    · have hz1 : (b1 == 0) = false := by simp [hb0]
      have HB0 := Lib.hid hb0; clear hb0
      go_wp2_with fail
      refine (opv_Div F.out.vp vb.out.ok (F.out.undone HB0.out) _).mono ?_
      rintro e w36 ⟨rfl, hl_36⟩
      have a0_36 := Later.cell hl_36 a0_35
      have a1_36 := Later.cell hl_36 a1_35
      have b0_36 := Later.cell hl_36 b0_35
      have b1_36 := Later.cell hl_36 b1_35
      have c0_36 := Later.cell hl_36 c0_35
      have c1_36 := Later.cell hl_36 c1_35
      have ab0_36 := Later.cell hl_36 ab0_35
      have ab1_36 := Later.cell hl_36 ab1_35
      have ba0_36 := Later.cell hl_36 ba0_35
      have ba1_36 := Later.cell hl_36 ba1_35
      have p0_36 := Later.cell hl_36 p0_35
      have p1_36 := Later.cell hl_36 p1_35
      have q0_36 := Later.cell hl_36 q0_35
      have q1_36 := Later.cell hl_36 q1_35
      have k0_36 := Later.cell hl_36 k0_35
      have k1_36 := Later.cell hl_36 k1_35
      have t0_36 := Later.cell hl_36 t0_35
      have t1_36 := Later.cell hl_36 t1_35
      have x0_36 := Later.cell hl_36 x0_35
      have x1_36 := Later.cell hl_36 x1_35
      have y0_36 := Later.cell hl_36 y0_35
      have y1_36 := Later.cell hl_36 y1_35
      have pc0_36 := Later.cell hl_36 pc0_35
      have pc1_36 := Later.cell hl_36 pc1_35
      have r0_36 := Later.cell hl_36 r0_35
      have r1_36 := Later.cell hl_36 r1_35
      have ar0_36 := Later.cell hl_36 ar0_35
      have ar1_36 := Later.cell hl_36 ar1_35
      have abc0_36 := Later.cell hl_36 abc0_35
      have abc1_36 := Later.cell hl_36 abc1_35
      have ac0_36 := Later.cell hl_36 ac0_35
      have ac1_36 := Later.cell hl_36 ac1_35
      have sum0_36 := Later.cell hl_36 sum0_35
      have sum1_36 := Later.cell hl_36 sum1_35
      clear lt0_35
      clear lt1_35
      clear lt2_35
      clear lt3_35
      clear lt4_35
      clear lt5_35
      clear lt6_35
      clear lt7_35
      clear lt8_35
      clear lt9_35
      clear lt10_35
      clear lt11_35
      clear lt12_35
      clear lt13_35
      clear lt14_35
      clear lt15_35
      have lt0_36 : w2.heap.size < w36.heap.size := lt_of_cell a0_36
      have lt1_36 : w4.heap.size < w36.heap.size := lt_of_cell b0_36
      have lt2_36 : w6.heap.size < w36.heap.size := lt_of_cell c0_36
      have lt3_36 : w8.heap.size < w36.heap.size := lt_of_cell ab0_36
      have lt4_36 : w10.heap.size < w36.heap.size := lt_of_cell ba0_36
      have lt5_36 : w12.heap.size < w36.heap.size := lt_of_cell p0_36
      have lt6_36 : w14.heap.size < w36.heap.size := lt_of_cell q0_36
      have lt7_36 : w16.heap.size < w36.heap.size := lt_of_cell k0_36
      have lt8_36 : w18.heap.size < w36.heap.size := lt_of_cell t0_36
      have lt9_36 : w20.heap.size < w36.heap.size := lt_of_cell x0_36
      have lt10_36 : w22.heap.size < w36.heap.size := lt_of_cell y0_36
      have lt11_36 : w24.heap.size < w36.heap.size := lt_of_cell pc0_36
      have lt12_36 : w26.heap.size < w36.heap.size := lt_of_cell r0_36
      have lt13_36 : w28.heap.size < w36.heap.size := lt_of_cell ar0_36
      have lt14_36 : w30.heap.size < w36.heap.size := lt_of_cell abc0_36
      have lt15_36 : w32.heap.size < w36.heap.size := lt_of_cell ac0_36
      have lt16_36 : w34.heap.size < w36.heap.size := lt_of_cell sum0_36
      have hB_36 := Later.below hl_36 hB_35 (by omega)
      have hz_36 := Later.size hl_36
      clear hl_36 a0_35 a1_35 b0_35 b1_35 c0_35 c1_35 ab0_35 ab1_35 ba0_35 ba1_35 p0_35 p1_35 q0_35 q1_35 k0_35 k1_35 t0_35 t1_35 x0_35 x1_35 y0_35 y1_35 pc0_35 pc1_35 r0_35 r1_35 ar0_35 ar1_35 abc0_35 abc1_35 ac0_35 ac1_35 sum0_35 sum1_35 hB_35
      go_wp2_with fail
      obtain ⟨w37, hw_37⟩ : ∃ w37, (w36.alloc (Obj.cells #[Value.int IntKind.i64 a1, Value.int IntKind.i64 a2] 23)) = w37 := ⟨_, rfl⟩
      rw [hw_37]
      have hl_37 : Later w36 w37 := by rw [← hw_37]; exact (Kin.Below.allocC (Below.refl _ _) (Nat.le_refl _))
      have un0_37 : w37.cell? ⟨w36.heap.size, 0, none⟩ = some (.int .i64 a1) := by rw [← hw_37]; simp [go_sem]
      have un1_37 : w37.cell? ⟨w36.heap.size, 1, none⟩ = some (.int .i64 a2) := by rw [← hw_37]; simp [go_sem]
      have hy_37 : w36.heap.size + 1 = w37.heap.size := by rw [← hw_37]; simp
      clear hw_37
      have a0_37 := Later.cell hl_37 a0_36
      have a1_37 := Later.cell hl_37 a1_36
      have b0_37 := Later.cell hl_37 b0_36
      have b1_37 := Later.cell hl_37 b1_36
      have c0_37 := Later.cell hl_37 c0_36
      have c1_37 := Later.cell hl_37 c1_36
      have ab0_37 := Later.cell hl_37 ab0_36
      have ab1_37 := Later.cell hl_37 ab1_36
      have ba0_37 := Later.cell hl_37 ba0_36
      have ba1_37 := Later.cell hl_37 ba1_36
      have p0_37 := Later.cell hl_37 p0_36
      have p1_37 := Later.cell hl_37 p1_36
      have q0_37 := Later.cell hl_37 q0_36
      have q1_37 := Later.cell hl_37 q1_36
      have k0_37 := Later.cell hl_37 k0_36
      have k1_37 := Later.cell hl_37 k1_36
      have t0_37 := Later.cell hl_37 t0_36
      have t1_37 := Later.cell hl_37 t1_36
      have x0_37 := Later.cell hl_37 x0_36
      have x1_37 := Later.cell hl_37 x1_36
      have y0_37 := Later.cell hl_37 y0_36
      have y1_37 := Later.cell hl_37 y1_36
      have pc0_37 := Later.cell hl_37 pc0_36
      have pc1_37 := Later.cell hl_37 pc1_36
      have r0_37 := Later.cell hl_37 r0_36
      have r1_37 := Later.cell hl_37 r1_36
      have ar0_37 := Later.cell hl_37 ar0_36
      have ar1_37 := Later.cell hl_37 ar1_36
      have abc0_37 := Later.cell hl_37 abc0_36
      have abc1_37 := Later.cell hl_37 abc1_36
      have ac0_37 := Later.cell hl_37 ac0_36
      have ac1_37 := Later.cell hl_37 ac1_36
      have sum0_37 := Later.cell hl_37 sum0_36
      have sum1_37 := Later.cell hl_37 sum1_36
      clear lt0_36
      clear lt1_36
      clear lt2_36
      clear lt3_36
      clear lt4_36
      clear lt5_36
      clear lt6_36
      clear lt7_36
      clear lt8_36
      clear lt9_36
      clear lt10_36
      clear lt11_36
      clear lt12_36
      clear lt13_36
      clear lt14_36
      clear lt15_36
      clear lt16_36
      have lt0_37 : w2.heap.size < w37.heap.size := lt_of_cell a0_37
      have lt1_37 : w4.heap.size < w37.heap.size := lt_of_cell b0_37
      have lt2_37 : w6.heap.size < w37.heap.size := lt_of_cell c0_37
      have lt3_37 : w8.heap.size < w37.heap.size := lt_of_cell ab0_37
      have lt4_37 : w10.heap.size < w37.heap.size := lt_of_cell ba0_37
      have lt5_37 : w12.heap.size < w37.heap.size := lt_of_cell p0_37
      have lt6_37 : w14.heap.size < w37.heap.size := lt_of_cell q0_37
      have lt7_37 : w16.heap.size < w37.heap.size := lt_of_cell k0_37
      have lt8_37 : w18.heap.size < w37.heap.size := lt_of_cell t0_37
      have lt9_37 : w20.heap.size < w37.heap.size := lt_of_cell x0_37
      have lt10_37 : w22.heap.size < w37.heap.size := lt_of_cell y0_37
      have lt11_37 : w24.heap.size < w37.heap.size := lt_of_cell pc0_37
      have lt12_37 : w26.heap.size < w37.heap.size := lt_of_cell r0_37
      have lt13_37 : w28.heap.size < w37.heap.size := lt_of_cell ar0_37
      have lt14_37 : w30.heap.size < w37.heap.size := lt_of_cell abc0_37
      have lt15_37 : w32.heap.size < w37.heap.size := lt_of_cell ac0_37
      have lt16_37 : w34.heap.size < w37.heap.size := lt_of_cell sum0_37
      have hB_37 := Later.below hl_37 hB_36 (by omega)
      have hz_37 := Later.size hl_37
      clear hl_37 a0_36 a1_36 b0_36 b1_36 c0_36 c1_36 ab0_36 ab1_36 ba0_36 ba1_36 p0_36 p1_36 q0_36 q1_36 k0_36 k1_36 t0_36 t1_36 x0_36 x1_36 y0_36 y1_36 pc0_36 pc1_36 r0_36 r1_36 ar0_36 ar1_36 abc0_36 abc1_36 ac0_36 ac1_36 sum0_36 sum1_36 hB_36
      go_wp2
      go_ret
      exact ⟨rfl, hB_37⟩
end R12
end Go.Proofs
