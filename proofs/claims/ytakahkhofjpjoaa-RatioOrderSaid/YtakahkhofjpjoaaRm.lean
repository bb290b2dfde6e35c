/- The reference's Make walked. -/
import Derived.Test.YtakahkhofjpjoaaDiv
import Derived.Test.YtakahkhofjpjoaaFn
namespace Go.Proofs
open Go.RowKit Go.Shelf Go.Kin
namespace R12

theorem mk_big {n d : Int} {g : Nat} (hd : d ≠ 0) (hg : mkG n d = g) (h : 1073741824 < n.natAbs / g ∨ 1073741824 < d.natAbs / g) : mkE n d = 2 ∧ mkN n d = 0 ∧ mkD n d = 0 := by
  have hb : mkBig n d = true := by unfold mkBig; rw [hg]; exact decide_eq_true h
  refine ⟨?_, ?_, ?_⟩
  · unfold mkE; rw [if_neg hd, hb]; rfl
  · unfold mkN; rw [if_neg hd, hb]; rfl
  · unfold mkD; rw [if_neg hd, hb]; rfl
theorem mk_small {n d : Int} {g : Nat} (hd : d ≠ 0) (hg : mkG n d = g) (h : ¬ (1073741824 < n.natAbs / g ∨ 1073741824 < d.natAbs / g)) (N : Int)
    (hN : (if (decide (n < 0)) != (decide (d < 0)) then -((n.natAbs / g : Nat) : Int) else ((n.natAbs / g : Nat) : Int)) = N) : mkE n d = 0 ∧ mkN n d = N ∧ mkD n d = ((d.natAbs / g : Nat) : Int) := by
  have hb : mkBig n d = false := by unfold mkBig; rw [hg]; exact decide_eq_false h
  refine ⟨?_, ?_, ?_⟩
  · unfold mkE; rw [if_neg hd, hb]; rfl
  · unfold mkN; rw [if_neg hd, hb, hg]; exact hN
  · unfold mkD; rw [if_neg hd, hb, hg]; rfl
set_option maxHeartbeats 2000000 in
theorem rmake_pp (n d : Int) (w : World) (h1 : -9223372036854775808 ≤ n) (h2 : n ≤ 9223372036854775807) (h3 : -9223372036854775808 ≤ d) (h4 : d ≤ 9223372036854775807) (hn : 0 < n) (hd0 : 0 < d) :
    Calls Try.prog 12 #[.int .i64 n, .int .i64 d] w fun e w' => e = .returned (.tuple #[.agg #[.int .i64 (mkN n d), .int .i64 (mkD n d)], .int .i64 (mkE n d)]) ∧ Below w.heap.size w w' := by
  have hd : d ≠ 0 := by omega
  have hdz : (d == 0) = false := by simp [hd]
  have hn1 : decide (n < 0) = false := by simp; omega
  have hd1 : decide (d < 0) = false := by simp; omega
  have HL : Hid (Nat.gcd n.natAbs d.natAbs = mkG n d) := Lib.hid rfl
  have HD0 := Lib.hid hd; clear hd
  have HN1 := Lib.hid hn1; clear hn1
  have HD1 := Lib.hid hd1; clear hd1
  skip
  go_enter Try.func12, Try.ntmps12
  go_wp2
  go_loop [8, 9] (fun a b => ∃ p q : Nat, a = .int .i64 (-(p : Int)) ∧ b = .int .i64 (-(q : Int)) ∧ p ≤ 9223372036854775808 ∧ q ≤ 9223372036854775808 ∧ (1 ≤ q ∨ 2 ≤ p) ∧ Hid (Nat.gcd p q = mkG n d)) (fun _ b => (-(intOf b)).toNat)
  case atStart => exact ⟨n.natAbs, d.natAbs, by congr 1; omega, by congr 1; omega, by omega, by omega, by omega, HL⟩
  case round =>
    obtain ⟨p, q, rfl, rfl, hp, hq, hz, H⟩ := hrel
    by_cases hq2 : 2 ≤ q
    · have hlt : -(q : Int) < -1 := by omega
      have H2 : Hid (Nat.gcd q (p % q) = mkG n d) := Lib.hid (by rw [← H.out, Nat.gcd_comm q, ← Nat.gcd_rec, Nat.gcd_comm])
      have hm1 : p % q < q := Nat.mod_lt _ (by omega)
      go_wp2
      exact ⟨⟨q, p % q, rfl, by congr 1, hq, by omega, by omega, H2⟩, by simp [intOf]; omega⟩
    · have hlt : ¬ -(q : Int) < -1 := by omega
      by_cases hq1 : q = 1
      · obtain rfl := hq1
        have hg1 : mkG n d = 1 := by rw [← H.out, Nat.gcd_one_right]
        clear H HL hq2
        by_cases hbig : 1073741824 < n.natAbs / 1 ∨ 1073741824 < d.natAbs / 1
        · have HM := Lib.hid (mk_big HD0.out hg1 hbig)
          rw [Nat.div_one, Nat.div_one] at hbig
          clear hg1
          by_cases hb1 : 1073741824 < n.natAbs
          all_goals
            go_wp2
            all_goals exact bodyPost_ret (v := .tuple #[.agg #[.int .i64 0, .int .i64 0], .int .i64 2]) (by simp [results, Try.results12, go_sem]) rfl ⟨by rw [HM.out.1, HM.out.2.1, HM.out.2.2], Kin.Below.allocC (Below.refl _ _) (Nat.le_refl _)⟩
        · have HM := Lib.hid (mk_small HD0.out hg1 hbig (n.natAbs) (by rw [HN1.out, HD1.out, Nat.div_one]; rfl))
          rw [Nat.div_one, Nat.div_one] at hbig
          clear hg1
          have hn1 := HN1.out
          have hd1 := HD1.out
          go_wp2
          refine bodyPost_ret (v := .tuple #[.agg #[.int .i64 (n.natAbs), .int .i64 d.natAbs], .int .i64 0]) ?_ rfl ⟨by rw [HM.out.1, HM.out.2.1, HM.out.2.2, Nat.div_one], Kin.Below.allocC (Below.refl _ _) (Nat.le_refl _)⟩
          simp [results, Try.results12, go_sem]
          try omega
      · obtain rfl : q = 0 := by omega
        have hg1 : mkG n d = p := by rw [← H.out, Nat.gcd_zero_right]
        have hp1 : 2 ≤ p := by omega
        have hp2 : (-(p : Int) == -1) = false := by simp; omega
        have hp3 : (-(p : Int) == 0) = false := by simp; omega
        clear H HL hq2 hq1 hz
        obtain ⟨X, hX⟩ : ∃ X, n.natAbs / p = X := ⟨_, rfl⟩
        obtain ⟨Y, hY⟩ : ∃ Y, d.natAbs / p = Y := ⟨_, rfl⟩
        have hXl : X ≤ 4611686018427387904 := by rw [← hX]; exact Nat.le_trans (Nat.div_le_div_left hp1 (by omega)) (by omega)
        have hYl : Y ≤ 4611686018427387904 := by rw [← hY]; exact Nat.le_trans (Nat.div_le_div_left hp1 (by omega)) (by omega)
        have hqx : n / (p : Int) = (X : Int) := by rw [← hX, show n = ((n.natAbs : Nat) : Int) by omega]; simp
        have hqy : d / (p : Int) = (Y : Int) := by rw [← hY, show d = ((d.natAbs : Nat) : Int) by omega]; simp
        have HX := Lib.hid hX; clear hX
        have HY := Lib.hid hY; clear hY
        by_cases hbig : 1073741824 < X ∨ 1073741824 < Y
        · have HM := Lib.hid (mk_big HD0.out hg1 (by rw [HX.out, HY.out]; exact hbig))
          clear hg1
          by_cases hb1 : 1073741824 < X
          all_goals
            go_wp2
            all_goals exact bodyPost_ret (v := .tuple #[.agg #[.int .i64 0, .int .i64 0], .int .i64 2]) (by simp [results, Try.results12, go_sem]) rfl ⟨by rw [HM.out.1, HM.out.2.1, HM.out.2.2], Kin.Below.allocC (Below.refl _ _) (Nat.le_refl _)⟩
        · have HM := Lib.hid (mk_small HD0.out hg1 (by rw [HX.out, HY.out]; exact hbig) (X) (by rw [HN1.out, HD1.out, HX.out]; rfl))
          clear hg1
          have hn1 := HN1.out
          have hd1 := HD1.out
          go_wp2
          refine bodyPost_ret (v := .tuple #[.agg #[.int .i64 (X), .int .i64 Y], .int .i64 0]) ?_ rfl ⟨by rw [HM.out.1, HM.out.2.1, HM.out.2.2, HY.out], Kin.Below.allocC (Below.refl _ _) (Nat.le_refl _)⟩
          simp [results, Try.results12, go_sem]
set_option maxHeartbeats 2000000 in
theorem rmake_pm (n d : Int) (w : World) (h1 : -9223372036854775808 ≤ n) (h2 : n ≤ 9223372036854775807) (h3 : -9223372036854775808 ≤ d) (h4 : d ≤ 9223372036854775807) (hn : 0 < n) (hd0 : d < 0) :
    Calls Try.prog 12 #[.int .i64 n, .int .i64 d] w fun e w' => e = .returned (.tuple #[.agg #[.int .i64 (mkN n d), .int .i64 (mkD n d)], .int .i64 (mkE n d)]) ∧ Below w.heap.size w w' := by
  have hd : d ≠ 0 := by omega
  have hdz : (d == 0) = false := by simp [hd]
  have hn1 : decide (n < 0) = false := by simp; omega
  have hd1 : decide (d < 0) = true := by simp; omega
  have HL : Hid (Nat.gcd n.natAbs d.natAbs = mkG n d) := Lib.hid rfl
  have HD0 := Lib.hid hd; clear hd
  have HN1 := Lib.hid hn1; clear hn1
  have HD1 := Lib.hid hd1; clear hd1
  skip
  go_enter Try.func12, Try.ntmps12
  go_wp2
  go_loop [8, 9] (fun a b => ∃ p q : Nat, a = .int .i64 (-(p : Int)) ∧ b = .int .i64 (-(q : Int)) ∧ p ≤ 9223372036854775808 ∧ q ≤ 9223372036854775808 ∧ (1 ≤ q ∨ 2 ≤ p) ∧ Hid (Nat.gcd p q = mkG n d)) (fun _ b => (-(intOf b)).toNat)
  case atStart => exact ⟨n.natAbs, d.natAbs, by congr 1; omega, by congr 1; omega, by omega, by omega, by omega, HL⟩
  case round =>
    obtain ⟨p, q, rfl, rfl, hp, hq, hz, H⟩ := hrel
    by_cases hq2 : 2 ≤ q
    · have hlt : -(q : Int) < -1 := by omega
      have H2 : Hid (Nat.gcd q (p % q) = mkG n d) := Lib.hid (by rw [← H.out, Nat.gcd_comm q, ← Nat.gcd_rec, Nat.gcd_comm])
      have hm1 : p % q < q := Nat.mod_lt _ (by omega)
      go_wp2
      exact ⟨⟨q, p % q, rfl, by congr 1, hq, by omega, by omega, H2⟩, by simp [intOf]; omega⟩
    · have hlt : ¬ -(q : Int) < -1 := by omega
      by_cases hq1 : q = 1
      · obtain rfl := hq1
        have hg1 : mkG n d = 1 := by rw [← H.out, Nat.gcd_one_right]
        clear H HL hq2
        by_cases hbig : 1073741824 < n.natAbs / 1 ∨ 1073741824 < d.natAbs / 1
        · have HM := Lib.hid (mk_big HD0.out hg1 hbig)
          rw [Nat.div_one, Nat.div_one] at hbig
          clear hg1
          by_cases hb1 : 1073741824 < n.natAbs
          all_goals
            go_wp2
            all_goals exact bodyPost_ret (v := .tuple #[.agg #[.int .i64 0, .int .i64 0], .int .i64 2]) (by simp [results, Try.results12, go_sem]) rfl ⟨by rw [HM.out.1, HM.out.2.1, HM.out.2.2], Kin.Below.allocC (Below.refl _ _) (Nat.le_refl _)⟩
        · have HM := Lib.hid (mk_small HD0.out hg1 hbig (-n.natAbs) (by rw [HN1.out, HD1.out, Nat.div_one]; rfl))
          rw [Nat.div_one, Nat.div_one] at hbig
          clear hg1
          have hn1 := HN1.out
          have hd1 := HD1.out
          go_wp2
          refine bodyPost_ret (v := .tuple #[.agg #[.int .i64 (-n.natAbs), .int .i64 d.natAbs], .int .i64 0]) ?_ rfl ⟨by rw [HM.out.1, HM.out.2.1, HM.out.2.2, Nat.div_one], Kin.Below.allocC (Below.refl _ _) (Nat.le_refl _)⟩
          simp [results, Try.results12, go_sem]
          try omega
      · obtain rfl : q = 0 := by omega
        have hg1 : mkG n d = p := by rw [← H.out, Nat.gcd_zero_right]
        have hp1 : 2 ≤ p := by omega
        have hp2 : (-(p : Int) == -1) = false := by simp; omega
        have hp3 : (-(p : Int) == 0) = false := by simp; omega
        clear H HL hq2 hq1 hz
        obtain ⟨X, hX⟩ : ∃ X, n.natAbs / p = X := ⟨_, rfl⟩
        obtain ⟨Y, hY⟩ : ∃ Y, d.natAbs / p = Y := ⟨_, rfl⟩
        have hXl : X ≤ 4611686018427387904 := by rw [← hX]; exact Nat.le_trans (Nat.div_le_div_left hp1 (by omega)) (by omega)
        have hYl : Y ≤ 4611686018427387904 := by rw [← hY]; exact Nat.le_trans (Nat.div_le_div_left hp1 (by omega)) (by omega)
        have hqx : n / (p : Int) = (X : Int) := by rw [← hX, show n = ((n.natAbs : Nat) : Int) by omega]; simp
        have hqy : d.tdiv (p : Int) = -(Y : Int) := by rw [← hY, show d = -((d.natAbs : Nat) : Int) by omega, Int.neg_tdiv, Int.tdiv_eq_ediv_of_nonneg (by omega)]; simp
        have HX := Lib.hid hX; clear hX
        have HY := Lib.hid hY; clear hY
        by_cases hbig : 1073741824 < X ∨ 1073741824 < Y
        · have HM := Lib.hid (mk_big HD0.out hg1 (by rw [HX.out, HY.out]; exact hbig))
          clear hg1
          by_cases hb1 : 1073741824 < X
          all_goals
            go_wp2
            all_goals exact bodyPost_ret (v := .tuple #[.agg #[.int .i64 0, .int .i64 0], .int .i64 2]) (by simp [results, Try.results12, go_sem]) rfl ⟨by rw [HM.out.1, HM.out.2.1, HM.out.2.2], Kin.Below.allocC (Below.refl _ _) (Nat.le_refl _)⟩
        · have HM := Lib.hid (mk_small HD0.out hg1 (by rw [HX.out, HY.out]; exact hbig) (-X) (by rw [HN1.out, HD1.out, HX.out]; rfl))
          clear hg1
          have hn1 := HN1.out
          have hd1 := HD1.out
          go_wp2
          refine bodyPost_ret (v := .tuple #[.agg #[.int .i64 (-X), .int .i64 Y], .int .i64 0]) ?_ rfl ⟨by rw [HM.out.1, HM.out.2.1, HM.out.2.2, HY.out], Kin.Below.allocC (Below.refl _ _) (Nat.le_refl _)⟩
          simp [results, Try.results12, go_sem]
set_option maxHeartbeats 2000000 in
theorem rmake_zp (n d : Int) (w : World) (h1 : -9223372036854775808 ≤ n) (h2 : n ≤ 9223372036854775807) (h3 : -9223372036854775808 ≤ d) (h4 : d ≤ 9223372036854775807) (hn : n = 0) (hd0 : 0 < d) :
    Calls Try.prog 12 #[.int .i64 n, .int .i64 d] w fun e w' => e = .returned (.tuple #[.agg #[.int .i64 (mkN n d), .int .i64 (mkD n d)], .int .i64 (mkE n d)]) ∧ Below w.heap.size w w' := by
  have hd : d ≠ 0 := by omega
  have hdz : (d == 0) = false := by simp [hd]
  have hn1 : decide (n < 0) = false := by simp; omega
  have hd1 : decide (d < 0) = false := by simp; omega
  have HL : Hid (Nat.gcd n.natAbs d.natAbs = mkG n d) := Lib.hid rfl
  have HD0 := Lib.hid hd; clear hd
  have HN1 := Lib.hid hn1; clear hn1
  have HD1 := Lib.hid hd1; clear hd1
  have HZ := Lib.hid hn; have hnl : n ≤ 0 := (by omega); have hnl2 : 0 ≤ n := (by omega); clear hn
  go_enter Try.func12, Try.ntmps12
  go_wp2
  go_loop [8, 9] (fun a b => ∃ p q : Nat, a = .int .i64 (-(p : Int)) ∧ b = .int .i64 (-(q : Int)) ∧ p ≤ 9223372036854775808 ∧ q ≤ 9223372036854775808 ∧ (1 ≤ q ∨ 2 ≤ p) ∧ Hid (Nat.gcd p q = mkG n d)) (fun _ b => (-(intOf b)).toNat)
  case atStart => exact ⟨n.natAbs, d.natAbs, by congr 1; omega, by congr 1; omega, by omega, by omega, by omega, HL⟩
  case round =>
    obtain ⟨p, q, rfl, rfl, hp, hq, hz, H⟩ := hrel
    by_cases hq2 : 2 ≤ q
    · have hlt : -(q : Int) < -1 := by omega
      have H2 : Hid (Nat.gcd q (p % q) = mkG n d) := Lib.hid (by rw [← H.out, Nat.gcd_comm q, ← Nat.gcd_rec, Nat.gcd_comm])
      have hm1 : p % q < q := Nat.mod_lt _ (by omega)
      go_wp2
      exact ⟨⟨q, p % q, rfl, by congr 1, hq, by omega, by omega, H2⟩, by simp [intOf]; omega⟩
    · have hlt : ¬ -(q : Int) < -1 := by omega
      by_cases hq1 : q = 1
      · obtain rfl := hq1
        have hg1 : mkG n d = 1 := by rw [← H.out, Nat.gcd_one_right]
        clear H HL hq2
        by_cases hbig : 1073741824 < n.natAbs / 1 ∨ 1073741824 < d.natAbs / 1
        · have HM := Lib.hid (mk_big HD0.out hg1 hbig)
          rw [Nat.div_one, Nat.div_one] at hbig
          clear hg1
          by_cases hb1 : 1073741824 < n.natAbs
          all_goals
            go_wp2
            all_goals exact bodyPost_ret (v := .tuple #[.agg #[.int .i64 0, .int .i64 0], .int .i64 2]) (by simp [results, Try.results12, go_sem]) rfl ⟨by rw [HM.out.1, HM.out.2.1, HM.out.2.2], Kin.Below.allocC (Below.refl _ _) (Nat.le_refl _)⟩
        · have HM := Lib.hid (mk_small HD0.out hg1 hbig (n.natAbs) (by rw [HN1.out, HD1.out, Nat.div_one]; rfl))
          rw [Nat.div_one, Nat.div_one] at hbig
          clear hg1
          have hn1 := HN1.out
          have hd1 := HD1.out
          go_wp2
          refine bodyPost_ret (v := .tuple #[.agg #[.int .i64 (n.natAbs), .int .i64 d.natAbs], .int .i64 0]) ?_ rfl ⟨by rw [HM.out.1, HM.out.2.1, HM.out.2.2, Nat.div_one], Kin.Below.allocC (Below.refl _ _) (Nat.le_refl _)⟩
          simp [results, Try.results12, go_sem]
          try omega
      · obtain rfl : q = 0 := by omega
        have hg1 : mkG n d = p := by rw [← H.out, Nat.gcd_zero_right]
        have hp1 : 2 ≤ p := by omega
        have hp2 : (-(p : Int) == -1) = false := by simp; omega
        have hp3 : (-(p : Int) == 0) = false := by simp; omega
        clear H HL hq2 hq1 hz
        obtain ⟨X, hX⟩ : ∃ X, n.natAbs / p = X := ⟨_, rfl⟩
        obtain ⟨Y, hY⟩ : ∃ Y, d.natAbs / p = Y := ⟨_, rfl⟩
        have hXl : X ≤ 4611686018427387904 := by rw [← hX]; exact Nat.le_trans (Nat.div_le_div_left hp1 (by omega)) (by omega)
        have hYl : Y ≤ 4611686018427387904 := by rw [← hY]; exact Nat.le_trans (Nat.div_le_div_left hp1 (by omega)) (by omega)
        have hqx : n.tdiv (p : Int) = -(X : Int) := by rw [← hX, HZ.out]; simp
        have hqy : d / (p : Int) = (Y : Int) := by rw [← hY, show d = ((d.natAbs : Nat) : Int) by omega]; simp
        have HX := Lib.hid hX; clear hX
        have HY := Lib.hid hY; clear hY
        by_cases hbig : 1073741824 < X ∨ 1073741824 < Y
        · have HM := Lib.hid (mk_big HD0.out hg1 (by rw [HX.out, HY.out]; exact hbig))
          clear hg1
          by_cases hb1 : 1073741824 < X
          all_goals
            go_wp2
            all_goals exact bodyPost_ret (v := .tuple #[.agg #[.int .i64 0, .int .i64 0], .int .i64 2]) (by simp [results, Try.results12, go_sem]) rfl ⟨by rw [HM.out.1, HM.out.2.1, HM.out.2.2], Kin.Below.allocC (Below.refl _ _) (Nat.le_refl _)⟩
        · have HM := Lib.hid (mk_small HD0.out hg1 (by rw [HX.out, HY.out]; exact hbig) (X) (by rw [HN1.out, HD1.out, HX.out]; rfl))
          clear hg1
          have hn1 := HN1.out
          have hd1 := HD1.out
          go_wp2
          refine bodyPost_ret (v := .tuple #[.agg #[.int .i64 (X), .int .i64 Y], .int .i64 0]) ?_ rfl ⟨by rw [HM.out.1, HM.out.2.1, HM.out.2.2, HY.out], Kin.Below.allocC (Below.refl _ _) (Nat.le_refl _)⟩
          simp [results, Try.results12, go_sem]
set_option maxHeartbeats 2000000 in
theorem rmake_zm (n d : Int) (w : World) (h1 : -9223372036854775808 ≤ n) (h2 : n ≤ 9223372036854775807) (h3 : -9223372036854775808 ≤ d) (h4 : d ≤ 9223372036854775807) (hn : n = 0) (hd0 : d < 0) :
    Calls Try.prog 12 #[.int .i64 n, .int .i64 d] w fun e w' => e = .returned (.tuple #[.agg #[.int .i64 (mkN n d), .int .i64 (mkD n d)], .int .i64 (mkE n d)]) ∧ Below w.heap.size w w' := by
  have hd : d ≠ 0 := by omega
  have hdz : (d == 0) = false := by simp [hd]
  have hn1 : decide (n < 0) = false := by simp; omega
  have hd1 : decide (d < 0) = true := by simp; omega
  have HL : Hid (Nat.gcd n.natAbs d.natAbs = mkG n d) := Lib.hid rfl
  have HD0 := Lib.hid hd; clear hd
  have HN1 := Lib.hid hn1; clear hn1
  have HD1 := Lib.hid hd1; clear hd1
  have HZ := Lib.hid hn; have hnl : n ≤ 0 := (by omega); have hnl2 : 0 ≤ n := (by omega); clear hn
  go_enter Try.func12, Try.ntmps12
  go_wp2
  go_loop [8, 9] (fun a b => ∃ p q : Nat, a = .int .i64 (-(p : Int)) ∧ b = .int .i64 (-(q : Int)) ∧ p ≤ 9223372036854775808 ∧ q ≤ 9223372036854775808 ∧ (1 ≤ q ∨ 2 ≤ p) ∧ Hid (Nat.gcd p q = mkG n d)) (fun _ b => (-(intOf b)).toNat)
  case atStart => exact ⟨n.natAbs, d.natAbs, by congr 1; omega, by congr 1; omega, by omega, by omega, by omega, HL⟩
  case round =>
    obtain ⟨p, q, rfl, rfl, hp, hq, hz, H⟩ := hrel
    by_cases hq2 : 2 ≤ q
    · have hlt : -(q : Int) < -1 := by omega
      have H2 : Hid (Nat.gcd q (p % q) = mkG n d) := Lib.hid (by rw [← H.out, Nat.gcd_comm q, ← Nat.gcd_rec, Nat.gcd_comm])
      have hm1 : p % q < q := Nat.mod_lt _ (by omega)
      go_wp2
      exact ⟨⟨q, p % q, rfl, by congr 1, hq, by omega, by omega, H2⟩, by simp [intOf]; omega⟩
    · have hlt : ¬ -(q : Int) < -1 := by omega
      by_cases hq1 : q = 1
      · obtain rfl := hq1
        have hg1 : mkG n d = 1 := by rw [← H.out, Nat.gcd_one_right]
        clear H HL hq2
        by_cases hbig : 1073741824 < n.natAbs / 1 ∨ 1073741824 < d.natAbs / 1
        · have HM := Lib.hid (mk_big HD0.out hg1 hbig)
          rw [Nat.div_one, Nat.div_one] at hbig
          clear hg1
          by_cases hb1 : 1073741824 < n.natAbs
          all_goals
            go_wp2
            all_goals exact bodyPost_ret (v := .tuple #[.agg #[.int .i64 0, .int .i64 0], .int .i64 2]) (by simp [results, Try.results12, go_sem]) rfl ⟨by rw [HM.out.1, HM.out.2.1, HM.out.2.2], Kin.Below.allocC (Below.refl _ _) (Nat.le_refl _)⟩
        · have HM := Lib.hid (mk_small HD0.out hg1 hbig (-n.natAbs) (by rw [HN1.out, HD1.out, Nat.div_one]; rfl))
          rw [Nat.div_one, Nat.div_one] at hbig
          clear hg1
          have hn1 := HN1.out
          have hd1 := HD1.out
          go_wp2
          refine bodyPost_ret (v := .tuple #[.agg #[.int .i64 (-n.natAbs), .int .i64 d.natAbs], .int .i64 0]) ?_ rfl ⟨by rw [HM.out.1, HM.out.2.1, HM.out.2.2, Nat.div_one], Kin.Below.allocC (Below.refl _ _) (Nat.le_refl _)⟩
          simp [results, Try.results12, go_sem]
          try omega
      · obtain rfl : q = 0 := by omega
        have hg1 : mkG n d = p := by rw [← H.out, Nat.gcd_zero_right]
        have hp1 : 2 ≤ p := by omega
        have hp2 : (-(p : Int) == -1) = false := by simp; omega
        have hp3 : (-(p : Int) == 0) = false := by simp; omega
        clear H HL hq2 hq1 hz
        obtain ⟨X, hX⟩ : ∃ X, n.natAbs / p = X := ⟨_, rfl⟩
        obtain ⟨Y, hY⟩ : ∃ Y, d.natAbs / p = Y := ⟨_, rfl⟩
        have hXl : X ≤ 4611686018427387904 := by rw [← hX]; exact Nat.le_trans (Nat.div_le_div_left hp1 (by omega)) (by omega)
        have hYl : Y ≤ 4611686018427387904 := by rw [← hY]; exact Nat.le_trans (Nat.div_le_div_left hp1 (by omega)) (by omega)
        have hqx : n.tdiv (p : Int) = -(X : Int) := by rw [← hX, HZ.out]; simp
        have hqy : d.tdiv (p : Int) = -(Y : Int) := by rw [← hY, show d = -((d.natAbs : Nat) : Int) by omega, Int.neg_tdiv, Int.tdiv_eq_ediv_of_nonneg (by omega)]; simp
        have HX := Lib.hid hX; clear hX
        have HY := Lib.hid hY; clear hY
        by_cases hbig : 1073741824 < X ∨ 1073741824 < Y
        · have HM := Lib.hid (mk_big HD0.out hg1 (by rw [HX.out, HY.out]; exact hbig))
          clear hg1
          by_cases hb1 : 1073741824 < X
          all_goals
            go_wp2
            all_goals exact bodyPost_ret (v := .tuple #[.agg #[.int .i64 0, .int .i64 0], .int .i64 2]) (by simp [results, Try.results12, go_sem]) rfl ⟨by rw [HM.out.1, HM.out.2.1, HM.out.2.2], Kin.Below.allocC (Below.refl _ _) (Nat.le_refl _)⟩
        · have HM := Lib.hid (mk_small HD0.out hg1 (by rw [HX.out, HY.out]; exact hbig) (-X) (by rw [HN1.out, HD1.out, HX.out]; rfl))
          clear hg1
          have hn1 := HN1.out
          have hd1 := HD1.out
          go_wp2
          refine bodyPost_ret (v := .tuple #[.agg #[.int .i64 (-X), .int .i64 Y], .int .i64 0]) ?_ rfl ⟨by rw [HM.out.1, HM.out.2.1, HM.out.2.2, HY.out], Kin.Below.allocC (Below.refl _ _) (Nat.le_refl _)⟩
          simp [results, Try.results12, go_sem]
set_option maxHeartbeats 2000000 in
theorem rmake_mp (n d : Int) (w : World) (h1 : -9223372036854775808 ≤ n) (h2 : n ≤ 9223372036854775807) (h3 : -9223372036854775808 ≤ d) (h4 : d ≤ 9223372036854775807) (hn : n < 0) (hd0 : 0 < d) :
    Calls Try.prog 12 #[.int .i64 n, .int .i64 d] w fun e w' => e = .returned (.tuple #[.agg #[.int .i64 (mkN n d), .int .i64 (mkD n d)], .int .i64 (mkE n d)]) ∧ Below w.heap.size w w' := by
  have hd : d ≠ 0 := by omega
  have hdz : (d == 0) = false := by simp [hd]
  have hn1 : decide (n < 0) = true := by simp; omega
  have hd1 : decide (d < 0) = false := by simp; omega
  have HL : Hid (Nat.gcd n.natAbs d.natAbs = mkG n d) := Lib.hid rfl
  have HD0 := Lib.hid hd; clear hd
  have HN1 := Lib.hid hn1; clear hn1
  have HD1 := Lib.hid hd1; clear hd1
  skip
  go_enter Try.func12, Try.ntmps12
  go_wp2
  go_loop [8, 9] (fun a b => ∃ p q : Nat, a = .int .i64 (-(p : Int)) ∧ b = .int .i64 (-(q : Int)) ∧ p ≤ 9223372036854775808 ∧ q ≤ 9223372036854775808 ∧ (1 ≤ q ∨ 2 ≤ p) ∧ Hid (Nat.gcd p q = mkG n d)) (fun _ b => (-(intOf b)).toNat)
  case atStart => exact ⟨n.natAbs, d.natAbs, by congr 1; omega, by congr 1; omega, by omega, by omega, by omega, HL⟩
  case round =>
    obtain ⟨p, q, rfl, rfl, hp, hq, hz, H⟩ := hrel
    by_cases hq2 : 2 ≤ q
    · have hlt : -(q : Int) < -1 := by omega
      have H2 : Hid (Nat.gcd q (p % q) = mkG n d) := Lib.hid (by rw [← H.out, Nat.gcd_comm q, ← Nat.gcd_rec, Nat.gcd_comm])
      have hm1 : p % q < q := Nat.mod_lt _ (by omega)
      go_wp2
      exact ⟨⟨q, p % q, rfl, by congr 1, hq, by omega, by omega, H2⟩, by simp [intOf]; omega⟩
    · have hlt : ¬ -(q : Int) < -1 := by omega
      by_cases hq1 : q = 1
      · obtain rfl := hq1
        have hg1 : mkG n d = 1 := by rw [← H.out, Nat.gcd_one_right]
        clear H HL hq2
        by_cases hbig : 1073741824 < n.natAbs / 1 ∨ 1073741824 < d.natAbs / 1
        · have HM := Lib.hid (mk_big HD0.out hg1 hbig)
          rw [Nat.div_one, Nat.div_one] at hbig
          clear hg1
          by_cases hb1 : 1073741824 < n.natAbs
          all_goals
            go_wp2
            all_goals exact bodyPost_ret (v := .tuple #[.agg #[.int .i64 0, .int .i64 0], .int .i64 2]) (by simp [results, Try.results12, go_sem]) rfl ⟨by rw [HM.out.1, HM.out.2.1, HM.out.2.2], Kin.Below.allocC (Below.refl _ _) (Nat.le_refl _)⟩
        · have HM := Lib.hid (mk_small HD0.out hg1 hbig (-n.natAbs) (by rw [HN1.out, HD1.out, Nat.div_one]; rfl))
          rw [Nat.div_one, Nat.div_one] at hbig
          clear hg1
          have hn1 := HN1.out
          have hd1 := HD1.out
          go_wp2
          refine bodyPost_ret (v := .tuple #[.agg #[.int .i64 (-n.natAbs), .int .i64 d.natAbs], .int .i64 0]) ?_ rfl ⟨by rw [HM.out.1, HM.out.2.1, HM.out.2.2, Nat.div_one], Kin.Below.allocC (Below.refl _ _) (Nat.le_refl _)⟩
          simp [results, Try.results12, go_sem]
          try omega
      · obtain rfl : q = 0 := by omega
        have hg1 : mkG n d = p := by rw [← H.out, Nat.gcd_zero_right]
        have hp1 : 2 ≤ p := by omega
        have hp2 : (-(p : Int) == -1) = false := by simp; omega
        have hp3 : (-(p : Int) == 0) = false := by simp; omega
        clear H HL hq2 hq1 hz
        obtain ⟨X, hX⟩ : ∃ X, n.natAbs / p = X := ⟨_, rfl⟩
        obtain ⟨Y, hY⟩ : ∃ Y, d.natAbs / p = Y := ⟨_, rfl⟩
        have hXl : X ≤ 4611686018427387904 := by rw [← hX]; exact Nat.le_trans (Nat.div_le_div_left hp1 (by omega)) (by omega)
        have hYl : Y ≤ 4611686018427387904 := by rw [← hY]; exact Nat.le_trans (Nat.div_le_div_left hp1 (by omega)) (by omega)
        have hqx : n.tdiv (p : Int) = -(X : Int) := by rw [← hX, show n = -((n.natAbs : Nat) : Int) by omega, Int.neg_tdiv, Int.tdiv_eq_ediv_of_nonneg (by omega)]; simp
        have hqy : d / (p : Int) = (Y : Int) := by rw [← hY, show d = ((d.natAbs : Nat) : Int) by omega]; simp
        have HX := Lib.hid hX; clear hX
        have HY := Lib.hid hY; clear hY
        by_cases hbig : 1073741824 < X ∨ 1073741824 < Y
        · have HM := Lib.hid (mk_big HD0.out hg1 (by rw [HX.out, HY.out]; exact hbig))
          clear hg1
          by_cases hb1 : 1073741824 < X
          all_goals
            go_wp2
            all_goals exact bodyPost_ret (v := .tuple #[.agg #[.int .i64 0, .int .i64 0], .int .i64 2]) (by simp [results, Try.results12, go_sem]) rfl ⟨by rw [HM.out.1, HM.out.2.1, HM.out.2.2], Kin.Below.allocC (Below.refl _ _) (Nat.le_refl _)⟩
        · have HM := Lib.hid (mk_small HD0.out hg1 (by rw [HX.out, HY.out]; exact hbig) (-X) (by rw [HN1.out, HD1.out, HX.out]; rfl))
          clear hg1
          have hn1 := HN1.out
          have hd1 := HD1.out
          go_wp2
          refine bodyPost_ret (v := .tuple #[.agg #[.int .i64 (-X), .int .i64 Y], .int .i64 0]) ?_ rfl ⟨by rw [HM.out.1, HM.out.2.1, HM.out.2.2, HY.out], Kin.Below.allocC (Below.refl _ _) (Nat.le_refl _)⟩
          simp [results, Try.results12, go_sem]
set_option maxHeartbeats 2000000 in
theorem rmake_mm (n d : Int) (w : World) (h1 : -9223372036854775808 ≤ n) (h2 : n ≤ 9223372036854775807) (h3 : -9223372036854775808 ≤ d) (h4 : d ≤ 9223372036854775807) (hn : n < 0) (hd0 : d < 0) :
    Calls Try.prog 12 #[.int .i64 n, .int .i64 d] w fun e w' => e = .returned (.tuple #[.agg #[.int .i64 (mkN n d), .int .i64 (mkD n d)], .int .i64 (mkE n d)]) ∧ Below w.heap.size w w' := by
  have hd : d ≠ 0 := by omega
  have hdz : (d == 0) = false := by simp [hd]
  have hn1 : decide (n < 0) = true := by simp; omega
  have hd1 : decide (d < 0) = true := by simp; omega
  have HL : Hid (Nat.gcd n.natAbs d.natAbs = mkG n d) := Lib.hid rfl
  have HD0 := Lib.hid hd; clear hd
  have HN1 := Lib.hid hn1; clear hn1
  have HD1 := Lib.hid hd1; clear hd1
  skip
  go_enter Try.func12, Try.ntmps12
  go_wp2
  go_loop [8, 9] (fun a b => ∃ p q : Nat, a = .int .i64 (-(p : Int)) ∧ b = .int .i64 (-(q : Int)) ∧ p ≤ 9223372036854775808 ∧ q ≤ 9223372036854775808 ∧ (1 ≤ q ∨ 2 ≤ p) ∧ Hid (Nat.gcd p q = mkG n d)) (fun _ b => (-(intOf b)).toNat)
  case atStart => exact ⟨n.natAbs, d.natAbs, by congr 1; omega, by congr 1; omega, by omega, by omega, by omega, HL⟩
  case round =>
    obtain ⟨p, q, rfl, rfl, hp, hq, hz, H⟩ := hrel
    by_cases hq2 : 2 ≤ q
    · have hlt : -(q : Int) < -1 := by omega
      have H2 : Hid (Nat.gcd q (p % q) = mkG n d) := Lib.hid (by rw [← H.out, Nat.gcd_comm q, ← Nat.gcd_rec, Nat.gcd_comm])
      have hm1 : p % q < q := Nat.mod_lt _ (by omega)
      go_wp2
      exact ⟨⟨q, p % q, rfl, by congr 1, hq, by omega, by omega, H2⟩, by simp [intOf]; omega⟩
    · have hlt : ¬ -(q : Int) < -1 := by omega
      by_cases hq1 : q = 1
      · obtain rfl := hq1
        have hg1 : mkG n d = 1 := by rw [← H.out, Nat.gcd_one_right]
        clear H HL hq2
        by_cases hbig : 1073741824 < n.natAbs / 1 ∨ 1073741824 < d.natAbs / 1
        · have HM := Lib.hid (mk_big HD0.out hg1 hbig)
          rw [Nat.div_one, Nat.div_one] at hbig
          clear hg1
          by_cases hb1 : 1073741824 < n.natAbs
          all_goals
            go_wp2
            all_goals exact bodyPost_ret (v := .tuple #[.agg #[.int .i64 0, .int .i64 0], .int .i64 2]) (by simp [results, Try.results12, go_sem]) rfl ⟨by rw [HM.out.1, HM.out.2.1, HM.out.2.2], Kin.Below.allocC (Below.refl _ _) (Nat.le_refl _)⟩
        · have HM := Lib.hid (mk_small HD0.out hg1 hbig (n.natAbs) (by rw [HN1.out, HD1.out, Nat.div_one]; rfl))
          rw [Nat.div_one, Nat.div_one] at hbig
          clear hg1
          have hn1 := HN1.out
          have hd1 := HD1.out
          go_wp2
          refine bodyPost_ret (v := .tuple #[.agg #[.int .i64 (n.natAbs), .int .i64 d.natAbs], .int .i64 0]) ?_ rfl ⟨by rw [HM.out.1, HM.out.2.1, HM.out.2.2, Nat.div_one], Kin.Below.allocC (Below.refl _ _) (Nat.le_refl _)⟩
          simp [results, Try.results12, go_sem]
          try omega
      · obtain rfl : q = 0 := by omega
        have hg1 : mkG n d = p := by rw [← H.out, Nat.gcd_zero_right]
        have hp1 : 2 ≤ p := by omega
        have hp2 : (-(p : Int) == -1) = false := by simp; omega
        have hp3 : (-(p : Int) == 0) = false := by simp; omega
        clear H HL hq2 hq1 hz
        obtain ⟨X, hX⟩ : ∃ X, n.natAbs / p = X := ⟨_, rfl⟩
        obtain ⟨Y, hY⟩ : ∃ Y, d.natAbs / p = Y := ⟨_, rfl⟩
        have hXl : X ≤ 4611686018427387904 := by rw [← hX]; exact Nat.le_trans (Nat.div_le_div_left hp1 (by omega)) (by omega)
        have hYl : Y ≤ 4611686018427387904 := by rw [← hY]; exact Nat.le_trans (Nat.div_le_div_left hp1 (by omega)) (by omega)
        have hqx : n.tdiv (p : Int) = -(X : Int) := by rw [← hX, show n = -((n.natAbs : Nat) : Int) by omega, Int.neg_tdiv, Int.tdiv_eq_ediv_of_nonneg (by omega)]; simp
        have hqy : d.tdiv (p : Int) = -(Y : Int) := by rw [← hY, show d = -((d.natAbs : Nat) : Int) by omega, Int.neg_tdiv, Int.tdiv_eq_ediv_of_nonneg (by omega)]; simp
        have HX := Lib.hid hX; clear hX
        have HY := Lib.hid hY; clear hY
        by_cases hbig : 1073741824 < X ∨ 1073741824 < Y
        · have HM := Lib.hid (mk_big HD0.out hg1 (by rw [HX.out, HY.out]; exact hbig))
          clear hg1
          by_cases hb1 : 1073741824 < X
          all_goals
            go_wp2
            all_goals exact bodyPost_ret (v := .tuple #[.agg #[.int .i64 0, .int .i64 0], .int .i64 2]) (by simp [results, Try.results12, go_sem]) rfl ⟨by rw [HM.out.1, HM.out.2.1, HM.out.2.2], Kin.Below.allocC (Below.refl _ _) (Nat.le_refl _)⟩
        · have HM := Lib.hid (mk_small HD0.out hg1 (by rw [HX.out, HY.out]; exact hbig) (X) (by rw [HN1.out, HD1.out, HX.out]; rfl))
          clear hg1
          have hn1 := HN1.out
          have hd1 := HD1.out
          go_wp2
          refine bodyPost_ret (v := .tuple #[.agg #[.int .i64 (X), .int .i64 Y], .int .i64 0]) ?_ rfl ⟨by rw [HM.out.1, HM.out.2.1, HM.out.2.2, HY.out], Kin.Below.allocC (Below.refl _ _) (Nat.le_refl _)⟩
          simp [results, Try.results12, go_sem]
theorem rmake_0 (n d : Int) (w : World) (hd : d = 0) :
    Calls Try.prog 12 #[.int .i64 n, .int .i64 d] w fun e w' => e = .returned (.tuple #[.agg #[.int .i64 (mkN n d), .int .i64 (mkD n d)], .int .i64 (mkE n d)]) ∧ Below w.heap.size w w' := by
  have hd1 : (d == 0) = true := by simp [hd]
  go_enter Try.func12, Try.ntmps12
  go_wp2
  exact bodyPost_ret (v := .tuple #[.agg #[.int .i64 0, .int .i64 0], .int .i64 120]) (by simp [results, Try.results12, go_sem]) rfl ⟨by simp [mkN, mkD, mkE, hd], (Below.refl _ _).alloc (Nat.le_refl _) _⟩
theorem rmake_any (n d : Int) (w : World) (h1 : -9223372036854775808 ≤ n) (h2 : n ≤ 9223372036854775807) (h3 : -9223372036854775808 ≤ d) (h4 : d ≤ 9223372036854775807) :
    Calls Try.prog 12 #[.int .i64 n, .int .i64 d] w fun e w' => e = .returned (.tuple #[.agg #[.int .i64 (mkN n d), .int .i64 (mkD n d)], .int .i64 (mkE n d)]) ∧ Below w.heap.size w w' := by
  rcases Int.lt_trichotomy d 0 with hd | hd | hd
  · rcases Int.lt_trichotomy n 0 with hn | hn | hn
    · exact rmake_mm n d w h1 h2 h3 h4 hn hd
    · exact rmake_zm n d w h1 h2 h3 h4 hn hd
    · exact rmake_pm n d w h1 h2 h3 h4 hn hd
  · exact rmake_0 n d w hd
  · rcases Int.lt_trichotomy n 0 with hn | hn | hn
    · exact rmake_mp n d w h1 h2 h3 h4 hn hd
    · exact rmake_zp n d w h1 h2 h3 h4 hn hd
    · exact rmake_pp n d w h1 h2 h3 h4 hn hd
end R12
end Go.Proofs
