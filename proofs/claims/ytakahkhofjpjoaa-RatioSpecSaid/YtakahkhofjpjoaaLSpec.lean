/- RatioSpec walked: Check and Make give what the reference gives. -/
import Derived.Test.YtakahkhofjpjoaaSane
namespace Go.Proofs
open Go.RowKit Go.Shelf Go.Kin
namespace R12
theorem chkR_eq (n d : Int) : chkR n d = chkE n d := rfl
set_option maxRecDepth 100000 in
set_option maxHeartbeats 4000000 in
theorem ratioSpec_any (n d a b : Int) (w : World) (hn : I64 n) (hd : I64 d) (ha : I64 a) (hb : I64 b) :
    Calls Try.prog 3 #[.agg #[.int .i64 n, .int .i64 d], .int .i64 a, .int .i64 b] w fun e w' => e = .returned (.bool true) ∧ Below w.heap.size w w' := by
  obtain ⟨h1, h2⟩ := hn; obtain ⟨h3, h4⟩ := hd; obtain ⟨h5, h6⟩ := ha; obtain ⟨h7, h8⟩ := hb
  have hB_0 := Below.refl w.heap.size w
  go_enter Try.func3, Try.ntmps3
  go_wp2_with fail
  obtain ⟨w1, hw_1⟩ : ∃ w1, (w.alloc (Obj.cells #[Value.int IntKind.i64 n, Value.int IntKind.i64 d] 23)) = w1 := ⟨_, rfl⟩
  rw [hw_1]
  have hl_1 : Later w w1 := by rw [← hw_1]; exact (Kin.Below.allocC (Below.refl _ _) (Nat.le_refl _))
  have a0_1 : w1.cell? ⟨w.heap.size, 0, none⟩ = some (.int .i64 n) := by rw [← hw_1]; simp [go_sem]
  have a1_1 : w1.cell? ⟨w.heap.size, 1, none⟩ = some (.int .i64 d) := by rw [← hw_1]; simp [go_sem]
  have hy_1 : w.heap.size + 1 = w1.heap.size := by rw [← hw_1]; simp
  clear hw_1
  have hB_1 := Later.below hl_1 hB_0 (by omega)
  have hz_1 := Later.size hl_1
  clear hl_1  hB_0
  refine (sane_any _).mono ?_
  rintro e w2 ⟨rfl, hl_2⟩
  have a0_2 := Later.cell hl_2 a0_1
  have a1_2 := Later.cell hl_2 a1_1
  have lt0_2 : w.heap.size < w2.heap.size := lt_of_cell a0_2
  have hB_2 := Later.below hl_2 hB_1 (by omega)
  have hz_2 := Later.size hl_2
  clear hl_2 a0_1 a1_1 hB_1
  go_wp2_with fail
  refine (make_any a b _ (by omega) (by omega) (by omega) (by omega)).mono ?_
  rintro e w3 ⟨rfl, hl_3⟩
  have a0_3 := Later.cell hl_3 a0_2
  have a1_3 := Later.cell hl_3 a1_2
  clear lt0_2
  have lt0_3 : w.heap.size < w3.heap.size := lt_of_cell a0_3
  have hB_3 := Later.below hl_3 hB_2 (by omega)
  have hz_3 := Later.size hl_3
  clear hl_3 a0_2 a1_2 hB_2
  go_wp2_with fail
  obtain ⟨w4, hw_4⟩ : ∃ w4, (w3.alloc (Obj.cells #[Value.int IntKind.i64 (mkN a b), Value.int IntKind.i64 (mkD a b)] 23)) = w4 := ⟨_, rfl⟩
  rw [hw_4]
  have hl_4 : Later w3 w4 := by rw [← hw_4]; exact (Kin.Below.allocC (Below.refl _ _) (Nat.le_refl _))
  have x0_4 : w4.cell? ⟨w3.heap.size, 0, none⟩ = some (.int .i64 (mkN a b)) := by rw [← hw_4]; simp [go_sem]
  have x1_4 : w4.cell? ⟨w3.heap.size, 1, none⟩ = some (.int .i64 (mkD a b)) := by rw [← hw_4]; simp [go_sem]
  have hy_4 : w3.heap.size + 1 = w4.heap.size := by rw [← hw_4]; simp
  clear hw_4
  have a0_4 := Later.cell hl_4 a0_3
  have a1_4 := Later.cell hl_4 a1_3
  clear lt0_3
  have lt0_4 : w.heap.size < w4.heap.size := lt_of_cell a0_4
  have hB_4 := Later.below hl_4 hB_3 (by omega)
  have hz_4 := Later.size hl_4
  clear hl_4 a0_3 a1_3 hB_3
  refine (rmake_any a b _ (by omega) (by omega) (by omega) (by omega)).mono ?_
  rintro e w5 ⟨rfl, hl_5⟩
  have a0_5 := Later.cell hl_5 a0_4
  have a1_5 := Later.cell hl_5 a1_4
  have x0_5 := Later.cell hl_5 x0_4
  have x1_5 := Later.cell hl_5 x1_4
  clear lt0_4
  have lt0_5 : w.heap.size < w5.heap.size := lt_of_cell a0_5
  have lt1_5 : w3.heap.size < w5.heap.size := lt_of_cell x0_5
  have hB_5 := Later.below hl_5 hB_4 (by omega)
  have hz_5 := Later.size hl_5
  clear hl_5 a0_4 a1_4 x0_4 x1_4 hB_4
  go_wp2_with fail
  obtain ⟨w6, hw_6⟩ : ∃ w6, (w5.alloc (Obj.cells #[Value.int IntKind.i64 (mkN a b), Value.int IntKind.i64 (mkD a b)] 23)) = w6 := ⟨_, rfl⟩
  rw [hw_6]
  have hl_6 : Later w5 w6 := by rw [← hw_6]; exact (Kin.Below.allocC (Below.refl _ _) (Nat.le_refl _))
  have y0_6 : w6.cell? ⟨w5.heap.size, 0, none⟩ = some (.int .i64 (mkN a b)) := by rw [← hw_6]; simp [go_sem]
  have y1_6 : w6.cell? ⟨w5.heap.size, 1, none⟩ = some (.int .i64 (mkD a b)) := by rw [← hw_6]; simp [go_sem]
  have hy_6 : w5.heap.size + 1 = w6.heap.size := by rw [← hw_6]; simp
  clear hw_6
  have a0_6 := Later.cell hl_6 a0_5
  have a1_6 := Later.cell hl_6 a1_5
  have x0_6 := Later.cell hl_6 x0_5
  have x1_6 := Later.cell hl_6 x1_5
  clear lt0_5
  clear lt1_5
  have lt0_6 : w.heap.size < w6.heap.size := lt_of_cell a0_6
  have lt1_6 : w3.heap.size < w6.heap.size := lt_of_cell x0_6
  have hB_6 := Later.below hl_6 hB_5 (by omega)
  have hz_6 := Later.size hl_6
  clear hl_6 a0_5 a1_5 x0_5 x1_5 hB_5
  refine wp_region_quiet (C := Later w6) (by kernel_rfl) (by kernel_rfl) (Later.drew1 _) ?_
  repeat (refine wpQuiet_step (fun K hK => ?_); go_simp; first | (refine hK _ ?_; clear hK K) | (apply Exists.intro; refine ⟨fun W hW => ?_, hK _ ?_⟩; (first | (go_at_call 13; refine (check_any _ _ _ (by omega) (by omega) (by omega) (by omega)).mono ?_; rintro e w' ⟨rfl, hb⟩; exact ⟨rfl, hW.step hb⟩) | (go_at_call 14; refine (rcheck_any _ _ _).mono ?_; rintro e w' ⟨rfl, hb⟩; exact ⟨by rw [chkR_eq], hW.step hb⟩) | (have e0 := Later.cell hW a0_6; have e1 := Later.cell hW a1_6; have e2 := Later.cell hW x0_6; have e3 := Later.cell hW x1_6; have e4 := Later.cell hW y0_6; have e5 := Later.cell hW y1_6; clear hW; go_simp; first | exact rfl | exact ⟨rfl, rfl⟩)); clear hK K))
  refine wpQuiet_nil ?_
  intro W1 hW1
  have hB := hW1.below hB_6 (by omega)
  go_wp2
  go_ret
  exact ⟨rfl, hB⟩
end R12
end Go.Proofs
