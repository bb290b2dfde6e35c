/- The reference's divisor, Valid, Check, Both, Less walked. -/
import Derived.Test.YtjagcijgfmclhaaRtDiv
import Derived.Test.YtjagcijgfmclhaaRtFn
set_option linter.unusedSectionVars false
set_option linter.unusedVariables false
set_option linter.unusedSimpArgs false
namespace Go.Proofs
open Go.RowKit Go.Shelf Go.Kin
namespace R12
theorem ret_v {a b : Value} (h : a = b) : Ending.returned a = Ending.returned b := by rw [h]
set_option maxHeartbeats 400000 in
theorem rsize_any (n : Int) (w : World) (h1 : -4611686018427387904 ≤ n) (h2 : n ≤ 4611686018427387904) :
    Calls Try.prog 58 #[.int .i64 n] w fun e w' => e = .returned (.int .i64 n.natAbs) ∧ w' = w := by
  go_enter Try.func58, Try.ntmps58
  go_wp2
  all_goals go_ret
  all_goals exact ⟨ret_v (by simp; omega), rfl⟩
set_option maxHeartbeats 400000 in
theorem rdivisor_nat (x y : Nat) (w : World) (h1 : x ≤ 9223372036854775807) (h2 : y ≤ 9223372036854775807) :
    Calls Try.prog 57 #[.int .i64 x, .int .i64 y] w fun e w' => e = .returned (.int .i64 (Nat.gcd x y)) ∧ w' = w := by
  go_enter Try.func57, Try.ntmps57
  go_wp2
  go_loop [0, 1] (fun a b => ∃ p q : Nat, a = .int .i64 p ∧ b = .int .i64 q ∧ p ≤ 9223372036854775807 ∧ q ≤ 9223372036854775807 ∧ Hid (Nat.gcd p q = Nat.gcd x y)) (fun _ b => (intOf b).toNat)
  case atStart => exact ⟨x, y, rfl, rfl, h1, h2, Lib.hid rfl⟩
  case round =>
    obtain ⟨p, q, rfl, rfl, hp, hq, H⟩ := hrel
    by_cases hq0 : 0 < q
    · have H2 : Hid (Nat.gcd q (p % q) = Nat.gcd x y) := Lib.hid (by rw [← H.out, Nat.gcd_comm q, ← Nat.gcd_rec, Nat.gcd_comm])
      have hlt : p % q < q := Nat.mod_lt _ hq0
      have hmm : Hid (((p : Int) % (q : Int)) = ((p % q : Nat) : Int)) := Lib.hid (by omega)
      clear H
      go_wp2
      go_round
      case rel => exact ⟨q, p % q, rfl, by rw [hmm.out], hq, by omega, H2⟩
      case measure => simp [intOf]; omega
    · obtain rfl : q = 0 := by omega
      go_wp2
      go_ret
      exact ⟨ret_v (by rw [← H.out, Nat.gcd_zero_right]; rfl), rfl⟩
theorem rdivisor_int (x y : Int) (w : World) (hx : 0 ≤ x) (hx' : x ≤ 9223372036854775807) (hy : 0 ≤ y) (hy' : y ≤ 9223372036854775807) :
    Calls Try.prog 57 #[.int .i64 x, .int .i64 y] w fun e w' => e = .returned (.int .i64 (Nat.gcd x.natAbs y.natAbs)) ∧ w' = w := by
  have h := rdivisor_nat x.natAbs y.natAbs w (by omega) (by omega)
  rw [show ((x.natAbs : Nat) : Int) = x by omega, show ((y.natAbs : Nat) : Int) = y by omega] at h
  exact h
set_option maxHeartbeats 400000 in
theorem valid_b1 (n d : Int) (w : World) (h : d < 1) :
    Calls Try.prog 55 #[.agg #[.int .i64 n, .int .i64 d]] w fun e w' => e = .returned (.bool false) ∧ Below w.heap.size w w' := by
  have e0 : decide (1 ≤ d) = false := by simp; omega
  go_enter Try.func55, Try.ntmps55
  go_wp2
  go_quiet (fail)
  go_wp2
  go_ret
  exact ⟨rfl, Kin.Below.drewNC (Kin.Below.allocC (Below.refl _ _) (Nat.le_refl _))⟩
set_option maxHeartbeats 400000 in
theorem valid_b2 (n d : Int) (w : World) (c : 1 ≤ d) (h : 1073741824 < d) :
    Calls Try.prog 55 #[.agg #[.int .i64 n, .int .i64 d]] w fun e w' => e = .returned (.bool false) ∧ Below w.heap.size w w' := by
  have e0 : decide (1 ≤ d) = true := by simp; omega
  have e1 : decide (d ≤ 1073741824) = false := by simp; omega
  go_enter Try.func55, Try.ntmps55
  go_wp2
  go_quiet (fail)
  go_wp2
  go_ret
  exact ⟨rfl, Kin.Below.drewNC (Kin.Below.allocC (Below.refl _ _) (Nat.le_refl _))⟩
set_option maxHeartbeats 400000 in
theorem valid_b3 (n d : Int) (w : World) (c : 1 ≤ d) (c' : d ≤ 1073741824) (h : n < -1073741824) :
    Calls Try.prog 55 #[.agg #[.int .i64 n, .int .i64 d]] w fun e w' => e = .returned (.bool false) ∧ Below w.heap.size w w' := by
  have e0 : decide (1 ≤ d) = true := by simp; omega
  have e1 : decide (d ≤ 1073741824) = true := by simp; omega
  have e2 : decide (-1073741824 ≤ n) = false := by simp; omega
  go_enter Try.func55, Try.ntmps55
  go_wp2
  go_quiet (fail)
  go_wp2
  go_ret
  exact ⟨rfl, Kin.Below.drewNC (Kin.Below.allocC (Below.refl _ _) (Nat.le_refl _))⟩
set_option maxHeartbeats 400000 in
theorem valid_b4 (n d : Int) (w : World) (c : 1 ≤ d) (c' : d ≤ 1073741824) (c'' : -1073741824 ≤ n) (h : 1073741824 < n) :
    Calls Try.prog 55 #[.agg #[.int .i64 n, .int .i64 d]] w fun e w' => e = .returned (.bool false) ∧ Below w.heap.size w w' := by
  have e0 : decide (1 ≤ d) = true := by simp; omega
  have e1 : decide (d ≤ 1073741824) = true := by simp; omega
  have e2 : decide (-1073741824 ≤ n) = true := by simp; omega
  have e3 : decide (n ≤ 1073741824) = false := by simp; omega
  go_enter Try.func55, Try.ntmps55
  go_wp2
  go_quiet (fail)
  go_wp2
  go_ret
  exact ⟨rfl, Kin.Below.drewNC (Kin.Below.allocC (Below.refl _ _) (Nat.le_refl _))⟩
set_option maxHeartbeats 400000 in
theorem valid_ok (n d : Int) (w : World) (c1 : 1 ≤ d) (c2 : d ≤ 1073741824) (c3 : -1073741824 ≤ n) (c4 : n ≤ 1073741824) :
    Calls Try.prog 55 #[.agg #[.int .i64 n, .int .i64 d]] w fun e w' => e = .returned (.bool (okB n d)) ∧ Below w.heap.size w w' := by
    go_enter Try.func55, Try.ntmps55
    go_wp2
    obtain ⟨w1, hw1⟩ : ∃ w1, w.alloc (Obj.cells #[Value.int IntKind.i64 n, Value.int IntKind.i64 d] 44) = w1 := ⟨_, rfl⟩
    have hc0 : w1.cell? ⟨w.heap.size, 0, none⟩ = some (.int .i64 n) := by rw [← hw1]; simp [go_sem]
    have hc1 : w1.cell? ⟨w.heap.size, 1, none⟩ = some (.int .i64 d) := by rw [← hw1]; simp [go_sem]
    have hsz : w.heap.size + 1 = w1.heap.size := by rw [← hw1]; simp
    have hB : Below w.heap.size w w1 := by rw [← hw1]; exact (Below.refl _ _).alloc (Nat.le_refl _) _
    rw [hw1]
    clear hw1
    have d1 : decide (1 ≤ d) = true := by simp; omega
    have d2 : decide (d ≤ 1073741824) = true := by simp; omega
    have d3 : decide (-1073741824 ≤ n) = true := by simp; omega
    have d4 : decide (n ≤ 1073741824) = true := by simp; omega
    refine wp_region_quiet (C := Later w1) (by decide +kernel) (by decide +kernel) (Later.drew1 _) ?_
    repeat (refine wpQuiet_step (fun K hK => ?_); go_simp; first | (refine hK _ ?_; clear hK K) | (apply Exists.intro; refine ⟨fun W hW => ?_, hK _ ?_⟩; (first | (go_at_call 58; refine (rsize_any _ _ (by omega) (by omega)).mono ?_; rintro e w' ⟨rfl, rfl⟩; exact ⟨rfl, hW⟩) | (go_at_call 57; refine (rdivisor_int _ _ _ (by omega) (by omega) (by omega) (by omega)).mono ?_; rintro e w' ⟨rfl, rfl⟩; exact ⟨rfl, hW⟩) | (have e0 := Later.cell hW hc0; have e1 := Later.cell hW hc1; clear hW; go_simp; first | exact rfl | exact ⟨rfl, rfl⟩)); clear hK K))
    refine wpQuiet_nil ?_
    intro W1 hW1
    have hB1 := hW1.below hB (by rw [← hsz]; exact Nat.le_succ _)
    clear d1 d2 d3 d4
    by_cases hg : Nat.gcd n.natAbs d.natAbs = 1
    · have H : Hid (okB n d = true) := Lib.hid (okB_iff.2 ⟨c1, c2, c3, c4, hg⟩)
      rw [hg]
      go_wp2
      go_ret
      exact ⟨by rw [H.out]; rfl, hB1⟩
    · have H : Hid (okB n d = false) := Lib.hid (by rw [Bool.eq_false_iff]; intro h; exact hg (okB_iff.1 h).2.2.2.2)
      have hg1 : (((Nat.gcd n.natAbs d.natAbs : Nat) : Int) == 1) = false := by simp; omega
      generalize Nat.gcd n.natAbs d.natAbs = g at *
      go_wp2
      go_ret
      exact ⟨ret_v (by rw [H.out, ← hg1]; rfl), hB1⟩
theorem okB_bad {n d : Int} (h : ¬ (1 ≤ d ∧ d ≤ 1073741824 ∧ -1073741824 ≤ n ∧ n ≤ 1073741824)) : okB n d = false := by
  rw [Bool.eq_false_iff]; intro e; exact h ⟨(okB_iff.1 e).1, (okB_iff.1 e).2.1, (okB_iff.1 e).2.2.1, (okB_iff.1 e).2.2.2.1⟩
theorem valid_any (n d : Int) (w : World) :
    Calls Try.prog 55 #[.agg #[.int .i64 n, .int .i64 d]] w fun e w' => e = .returned (.bool (okB n d)) ∧ Below w.heap.size w w' := by
  by_cases c1 : d < 1
  · rw [okB_bad (by omega)]; exact valid_b1 n d w c1
  · by_cases c2 : 1073741824 < d
    · rw [okB_bad (by omega)]; exact valid_b2 n d w (by omega) c2
    · by_cases c3 : n < -1073741824
      · rw [okB_bad (by omega)]; exact valid_b3 n d w (by omega) (by omega) c3
      · by_cases c4 : 1073741824 < n
        · rw [okB_bad (by omega)]; exact valid_b4 n d w (by omega) (by omega) (by omega) c4
        · exact valid_ok n d w (by omega) (by omega) (by omega) (by omega)
def chkR (n d : Int) : Int := if okB n d then 0 else 120
set_option maxHeartbeats 400000 in
theorem rcheck_any (n d : Int) (w : World) :
    Calls Try.prog 47 #[.agg #[.int .i64 n, .int .i64 d]] w fun e w' => e = .returned (.int .i64 (chkR n d)) ∧ Below w.heap.size w w' := by
  cases hb : okB n d
  · have H : Hid (chkR n d = 120) := Lib.hid (by simp [chkR, hb])
    have HB := Lib.hid hb; clear hb
    go_enter Try.func47, Try.ntmps47
    go_wp2_with (go_at_call 55; refine (valid_any _ _ _).mono ?_; rintro e w' ⟨rfl, hb⟩; rw [HB.out])
    go_ret
    exact ⟨by rw [H.out]; rfl, (Kin.Below.allocC (Below.refl _ _) (Nat.le_refl _)).trans (hb.mono (by simp))⟩
  · have H : Hid (chkR n d = 0) := Lib.hid (by simp [chkR, hb])
    have HB := Lib.hid hb; clear hb
    go_enter Try.func47, Try.ntmps47
    go_wp2_with (go_at_call 55; refine (valid_any _ _ _).mono ?_; rintro e w' ⟨rfl, hb⟩; rw [HB.out])
    go_ret
    exact ⟨by rw [H.out]; rfl, (Kin.Below.allocC (Below.refl _ _) (Nat.le_refl _)).trans (hb.mono (by simp))⟩
end R12
end Go.Proofs
