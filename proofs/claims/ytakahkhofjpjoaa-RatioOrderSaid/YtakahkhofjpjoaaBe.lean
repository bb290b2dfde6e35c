/- Both forms of 'the simplest number between two others' walked. -/
import Derived.Test.YtakahkhofjpjoaaOp
import Derived.Test.YtakahkhofjpjoaaSmp
namespace Go.Proofs
open Go.RowKit Go.Shelf Go.Kin
namespace R12
theorem smp_yes {f : Nat} {n d m k : Int} (h : k = 0 ∨ (n / d + 1) * k < m) : smp (f + 1) n d m k = (n / d + 1, 1) := by simp only [smp, if_pos h]
theorem smp_no {f : Nat} {n d m k : Int} (h : ¬ (k = 0 ∨ (n / d + 1) * k < m)) : smp (f + 1) n d m k = (n / d * (smp f k (m - n / d * k) d (n - n / d * d)).1 + (smp f k (m - n / d * k) d (n - n / d * d)).2, (smp f k (m - n / d * k) d (n - n / d * d)).1) := by simp only [smp, if_neg h]
set_option maxHeartbeats 1000000 in
theorem simp_any (b : Nat) (f : Nat) : ∀ (n d m k : Int) (w : World), Sin n d m k → d + k < f → w.cell? ⟨b, 0, none⟩ = some (.func (.func 38) #[] #[.pointer (some ⟨b, 0, none⟩)]) →
    Calls Try.prog 38 #[.int .i64 n, .int .i64 d, .int .i64 m, .int .i64 k, .pointer (some ⟨b, 0, none⟩)] w fun e w' => e = .returned (.tuple #[.int .i64 (smp f n d m k).1, .int .i64 (smp f n d m k).2]) ∧ w' = w := by
  induction f with
  | zero => intro n d m k w h hf; have := h.d1; have := h.k0; omega
  | succ f ih =>
    intro n d m k w h hf hc
    have IH := Lib.hid ih; clear ih
    have HS := Lib.hid h
    obtain ⟨q0, q1, q2, q3, q4, q5, q6⟩ := h.q
    have hm1 := h.m1
    obtain ⟨h1, h2, h3, h4, h5, h6, h7, h8⟩ := h
    clear h4
    obtain ⟨p1, p2⟩ := mul30 (a := n / d) (b := k) (by omega) (by omega) (by omega) (by omega)
    have he : (n / d + 1) * k = n / d * k + k := by rw [Int.add_mul, Int.one_mul]
    have p3 : -1152921504606846976 ≤ (n / d + 1) * k := by omega
    have p4 : (n / d + 1) * k ≤ 1152921505680588800 := by omega
    clear he
    by_cases hk0 : k = 0
    · have H : Hid (smp (f + 1) n d m k = (n / d + 1, 1)) := Lib.hid (smp_yes (.inl hk0))
      have hz : (k == 0) = true := by simp [hk0]
      clear hk0
      go_enter Try.func38, Try.ntmps38
      go_wp2
      go_ret2
      exact ⟨by rw [H.out]; rfl, rfl⟩
    · have hz : (k == 0) = false := by simp [hk0]
      by_cases hk1 : (n / d + 1) * k < m
      · have H : Hid (smp (f + 1) n d m k = (n / d + 1, 1)) := Lib.hid (smp_yes (.inr hk1))
        clear hk0
        go_enter Try.func38, Try.ntmps38
        go_wp2
        go_ret2
        exact ⟨by rw [H.out]; rfl, rfl⟩
      · have hno : ¬ (k = 0 ∨ (n / d + 1) * k < m) := by omega
        have H := Lib.hid (smp_no (f := f) hno)
        obtain ⟨hn1, hn2⟩ := HS.out.next hno
        have hbd := smp_bd f hn1 (by omega)
        have HN := Lib.hid hn1; clear hn1
        clear hk0 hno
        obtain ⟨r1, r2, r3, r4⟩ := hbd
        have r5 : n / d * (smp f k (m - n / d * k) d (n - n / d * d)).1 ≤ n / d * (k + d) := Int.mul_le_mul_of_nonneg_left (by omega) q0
        have r6 : 0 ≤ n / d * (smp f k (m - n / d * k) d (n - n / d * d)).1 := Int.mul_nonneg q0 (by omega)
        rw [Int.mul_add] at r5
        go_enter Try.func38, Try.ntmps38
        go_wp2_with fail
        refine (IH.out k (m - n / d * k) d (n - n / d * d) _ HN.out (by omega) hc).mono ?_
        rintro e w' ⟨rfl, rfl⟩
        go_wp2
        go_ret2
        exact ⟨by rw [H.out]; rfl, rfl⟩
set_option maxHeartbeats 1000000 in
theorem rsimp_any (f : Nat) : ∀ (n d m k : Int) (w : World), Sin n d m k → d + k < f →
    Calls Try.prog 39 #[.agg #[.int .i64 n, .int .i64 d], .agg #[.int .i64 m, .int .i64 k]] w fun e w' => e = .returned (.agg #[.int .i64 (smp f n d m k).1, .int .i64 (smp f n d m k).2]) ∧ Below w.heap.size w w' := by
  induction f with
  | zero => intro n d m k w h hf; have := h.d1; have := h.k0; omega
  | succ f ih =>
    intro n d m k w h hf
    have IH := Lib.hid ih; clear ih
    have HS := Lib.hid h
    obtain ⟨q0, q1, q2, q3, q4, q5, q6⟩ := h.q
    have hm1 := h.m1
    obtain ⟨h1, h2, h3, h4, h5, h6, h7, h8⟩ := h
    clear h4
    obtain ⟨p1, p2⟩ := mul30 (a := n / d) (b := k) (by omega) (by omega) (by omega) (by omega)
    have he : (n / d + 1) * k = n / d * k + k := by rw [Int.add_mul, Int.one_mul]
    have p3 : -1152921504606846976 ≤ (n / d + 1) * k := by omega
    have p4 : (n / d + 1) * k ≤ 1152921505680588800 := by omega
    clear he
    by_cases hk0 : k = 0
    · have H : Hid (smp (f + 1) n d m k = (n / d + 1, 1)) := Lib.hid (smp_yes (.inl hk0))
      have hz : (k == 0) = true := by simp [hk0]
      clear hk0
      go_enter Try.func39, Try.ntmps39
      go_wp2
      refine bodyPost_ret (v := .agg #[.int .i64 (n / d + 1), .int .i64 1]) (by simp [results, Try.results39, go_sem]) rfl ⟨by rw [H.out], Kin.Below.allocC (Kin.Below.allocC (Kin.Below.allocC (Below.refl _ _) (Nat.le_refl _)) (by simp)) (by simp; omega)⟩
    · have hz : (k == 0) = false := by simp [hk0]
      by_cases hk1 : (n / d + 1) * k < m
      · have H : Hid (smp (f + 1) n d m k = (n / d + 1, 1)) := Lib.hid (smp_yes (.inr hk1))
        clear hk0
        go_enter Try.func39, Try.ntmps39
        go_wp2
        refine bodyPost_ret (v := .agg #[.int .i64 (n / d + 1), .int .i64 1]) (by simp [results, Try.results39, go_sem]) rfl ⟨by rw [H.out], Kin.Below.allocC (Kin.Below.allocC (Kin.Below.allocC (Below.refl _ _) (Nat.le_refl _)) (by simp)) (by simp; omega)⟩
      · have hno : ¬ (k = 0 ∨ (n / d + 1) * k < m) := by omega
        have H := Lib.hid (smp_no (f := f) hno)
        obtain ⟨hn1, hn2⟩ := HS.out.next hno
        have hbd := smp_bd f hn1 (by omega)
        have HN := Lib.hid hn1; clear hn1
        clear hk0 hno
        obtain ⟨r1, r2, r3, r4⟩ := hbd
        have r5 : n / d * (smp f k (m - n / d * k) d (n - n / d * d)).1 ≤ n / d * (k + d) := Int.mul_le_mul_of_nonneg_left (by omega) q0
        have r6 : 0 ≤ n / d * (smp f k (m - n / d * k) d (n - n / d * d)).1 := Int.mul_nonneg q0 (by omega)
        rw [Int.mul_add] at r5
        go_enter Try.func39, Try.ntmps39
        go_wp2_with fail
        obtain ⟨W0, hW0⟩ : ∃ W0, (((w.alloc (Obj.cells #[Value.int IntKind.i64 n, Value.int IntKind.i64 d] 53)).alloc (Obj.cells #[Value.int IntKind.i64 m, Value.int IntKind.i64 k] 53)).alloc (Obj.cells #[Value.int IntKind.i64 0, Value.int IntKind.i64 0] 53)) = W0 := ⟨_, rfl⟩
        rw [hW0]
        refine (IH.out k (m - n / d * k) d (n - n / d * d) _ HN.out (by omega)).mono ?_
        rintro e w1 ⟨rfl, hl1⟩
        have hB0 : Below w.heap.size w W0 := by rw [← hW0]; exact Kin.Below.allocC (Kin.Below.allocC (Kin.Below.allocC (Below.refl w.heap.size w) (Nat.le_refl _)) (by simp)) (by simp; omega)
        have b1 : W0.cell? ⟨w.heap.size, 0, none⟩ = some (.int .i64 n) := by rw [← hW0]; simp [go_sem]
        have b2 : W0.cell? ⟨w.heap.size, 1, none⟩ = some (.int .i64 d) := by rw [← hW0]; simp [go_sem]
        have b5 : W0.cell? ⟨w.heap.size + 1 + 1, 0, none⟩ = some (.int .i64 0) := by rw [← hW0]; simp [go_sem]
        have b6 : W0.cell? ⟨w.heap.size + 1 + 1, 1, none⟩ = some (.int .i64 0) := by rw [← hW0]; simp [go_sem]
        have b7 : W0.frozen? ⟨w.heap.size + 1 + 1, 0, none⟩ = false := by rw [← hW0]; simp [go_sem]
        have b8 : W0.frozen? ⟨w.heap.size + 1 + 1, 1, none⟩ = false := by rw [← hW0]; simp [go_sem]
        have hs0 : w.heap.size + 3 = W0.heap.size := by rw [← hW0]; simp
        clear hW0
        have hB1 := Later.below hl1 hB0 (by rw [← hs0]; omega)
        have hs1 := Later.size hl1
        have a1 := Later.cell hl1 b1; have a2 := Later.cell hl1 b2
        have a5 := Later.cell hl1 b5; have a6 := Later.cell hl1 b6; have a7 := Later.frozen hl1 (lt_of_cell b5) b7; have a8 := Later.frozen hl1 (lt_of_cell b6) b8
        have hs2 : w.heap.size + 1 + 1 < w1.heap.size := by omega
        have hs3 : w.heap.size < w1.heap.size := by omega
        clear hl1 b1 b2 b5 b6 b7 b8 hs0 hs1 hB0
        go_wp2
        refine bodyPost_ret (v := .agg #[.int .i64 (n / d * (smp f k (m - n / d * k) d (n - n / d * d)).1 + (smp f k (m - n / d * k) d (n - n / d * d)).2), .int .i64 (smp f k (m - n / d * k) d (n - n / d * d)).1]) ?_ rfl ⟨by rw [H.out], Kin.Below.allocC (Kin.Below.setC (Kin.Below.setC hB1 (by omega)) (by omega)) (by simp [World.setCell]; omega)⟩
        simp (maxDischargeDepth := 8) [results, Try.results39, go_sem, a5, a6, hs2]
end R12
end Go.Proofs
