/- magnitude and Make walked. -/
import Derived.Test.YtakahkhofjpjoaaDiv
import Derived.Test.YtakahkhofjpjoaaFn
namespace Go.Proofs
open Go.RowKit Go.Shelf Go.Kin
namespace R12
theorem u64w (x g : Nat) (hx : x ≤ 9223372036854775808) (_hg : 0 < g) : IntKind.u64.wrap ((x : Int) / (g : Int)) = ((x / g : Nat) : Int) := by
  have h1 : ((x : Int) / (g : Int)) = ((x / g : Nat) : Int) := by simp
  have h2 : x / g ≤ x := Nat.div_le_self _ _
  rw [h1]; generalize x / g = q at *; simp only [IntKind.wrap, IntKind.bits, IntKind.signed]; simp; omega
theorem ret_val {a b : Value} (h : a = b) : Ending.returned a = Ending.returned b := by rw [h]
def i64 (n : Int) : Prop := -9223372036854775808 ≤ n ∧ n ≤ 9223372036854775807
set_option maxHeartbeats 400000 in
theorem magnitude_any (n : Int) (w : World) (h1 : -9223372036854775808 ≤ n) (h2 : n ≤ 9223372036854775807) :
    Calls Try.prog 34 #[.int .i64 n] w fun e w' => e = .returned (.int .u64 n.natAbs) ∧ w' = w := by
  by_cases hn : n < 0
  · have e1 : IntKind.u64.wrap (-IntKind.u64.wrap n) = (n.natAbs : Int) := by
      simp only [IntKind.wrap, IntKind.bits, IntKind.signed]; simp; omega
    have E1 := Lib.hid e1; clear e1
    go_enter Try.func34, Try.ntmps34
    go_wp2
    go_ret
    exact ⟨ret_val (by show Value.int _ _ = _; rw [E1.out]), rfl⟩
  · go_enter Try.func34, Try.ntmps34
    go_wp2
    go_ret
    exact ⟨ret_val (by show Value.int _ _ = _; congr 1; omega), rfl⟩

set_option maxHeartbeats 1000000 in
theorem make_any (n d : Int) (w : World) (h1 : -9223372036854775808 ≤ n) (h2 : n ≤ 9223372036854775807) (h3 : -9223372036854775808 ≤ d) (h4 : d ≤ 9223372036854775807) :
    Calls Try.prog 11 #[.int .i64 n, .int .i64 d] w fun e w' => e = .returned (.tuple #[.agg #[.int .i64 (mkN n d), .int .i64 (mkD n d)], .int .i64 (mkE n d)]) ∧ Below w.heap.size w w' := by
  by_cases hd : d = 0
  · have hd1 : (d == 0) = true := by simp [hd]
    go_enter Try.func11, Try.ntmps11
    go_wp2
    exact bodyPost_ret (v := .tuple #[.agg #[.int .i64 0, .int .i64 0], .int .i64 120]) (by simp [results, Try.results11, go_sem]) rfl ⟨by simp [mkN, mkD, mkE, hd], (Below.refl _ _).alloc (Nat.le_refl _) _⟩
  · have hd1 : (d == 0) = false := by simp [hd]
    go_enter Try.func11, Try.ntmps11
    go_wp2_with (first | (go_at_call 34; refine (magnitude_any _ _ (by omega) (by omega)).mono ?_; rintro e w' ⟨rfl, rfl⟩) | (go_at_call 35; refine (divisor_any _ _ _ (by omega) (by omega)).mono ?_; rintro e w' ⟨rfl, hb⟩))
    have hg : 0 < mkG n d := mkG_pos hd
    have HE : Hid (mkE n d = if mkBig n d then 2 else 0) := Lib.hid (by simp [mkE, hd])
    have HN : Hid (mkN n d = if mkBig n d then 0 else if (decide (n < 0)) != (decide (d < 0)) then -((n.natAbs / mkG n d : Nat) : Int) else ((n.natAbs / mkG n d : Nat) : Int)) := Lib.hid (by simp [mkN, hd])
    have HD : Hid (mkD n d = if mkBig n d then 0 else ((d.natAbs / mkG n d : Nat) : Int)) := Lib.hid (by simp [mkD, hd])
    have HB : Hid (mkBig n d = decide (1073741824 < n.natAbs / mkG n d ∨ 1073741824 < d.natAbs / mkG n d)) := Lib.hid rfl
    have hgl : mkG n d ≤ 9223372036854775808 := by
      have : mkG n d ≤ d.natAbs := Nat.gcd_le_right _ (by omega)
      omega
    have hxl : n.natAbs ≤ 9223372036854775808 := by omega
    have hyl : d.natAbs ≤ 9223372036854775808 := by omega
    rw [show n.natAbs.gcd d.natAbs = mkG n d from rfl]
    generalize mkBig n d = big at HE HN HD HB
    generalize mkG n d = g at *
    generalize n.natAbs = x at *
    generalize d.natAbs = y at *
    have hg1 : ((g : Int) == 0) = false := by simp; omega
    have hg2 : (1 : Int) ≤ (g : Int) := by omega
    clear hd hd1
    go_region
    rw [u64w x g hxl hg, u64w y g hyl hg]
    have hX : x / g ≤ 9223372036854775808 := Nat.le_trans (Nat.div_le_self _ _) hxl
    have hY : y / g ≤ 9223372036854775808 := Nat.le_trans (Nat.div_le_self _ _) hyl
    generalize x / g = X at *
    generalize y / g = Y at *
    clear hg hg1 hg2 hgl hxl hyl
    have hc0 : w'.cell? ⟨w.heap.size, 0, none⟩ = some (.int .i64 0) := (hb.cell (p := ⟨w.heap.size, 0, none⟩) (by simp)).trans (by simp [go_sem])
    have hc1 : w'.cell? ⟨w.heap.size, 1, none⟩ = some (.int .i64 0) := (hb.cell (p := ⟨w.heap.size, 1, none⟩) (by simp)).trans (by simp [go_sem])
    have hf0 : w'.frozen? ⟨w.heap.size, 0, none⟩ = false := (hb.frozen (p := ⟨w.heap.size, 0, none⟩) (by simp)).trans (by simp [go_sem])
    have hf1 : w'.frozen? ⟨w.heap.size, 1, none⟩ = false := (hb.frozen (p := ⟨w.heap.size, 1, none⟩) (by simp)).trans (by simp [go_sem])
    have hsz := hb.size
    rw [World.size_alloc] at hsz
    have hB := ((Below.refl w.heap.size w).alloc (Nat.le_refl _) (Obj.cells #[Value.int IntKind.i64 0, Value.int IntKind.i64 0] 23)).trans (hb.mono (by simp))
    clear hb
    by_cases hbig : 1073741824 < X ∨ 1073741824 < Y
    · rw [HB.out, decide_eq_true hbig] at HE HN HD
      by_cases hxy : X < Y
      all_goals
        have hmx : (1073741824 : Int) < (if X < Y then (Y : Int) else X) := by omega
        go_wp2
        exact bodyPost_ret (v := .tuple #[.agg #[.int .i64 0, .int .i64 0], .int .i64 2]) (by simp [results, Try.results11, go_sem, hc0, hc1]) rfl ⟨by rw [HE.out, HN.out, HD.out]; rfl, by (repeat (first | with_reducible refine Below.drew ?_ | with_reducible refine Kin.Below.setC ?_ (Nat.le_refl _))); with_reducible exact hB⟩
    · rw [HB.out, decide_eq_false hbig] at HE HN HD
      have hX1 : X ≤ 1073741824 := by omega
      have hY1 : Y ≤ 1073741824 := by omega
      by_cases hxy : X < Y
      all_goals
        have hmx : ¬ (1073741824 : Int) < (if X < Y then (Y : Int) else X) := by omega
        by_cases hn0 : n < 0 <;> by_cases hd0 : d < 0
        all_goals
          go_wp2
          refine bodyPost_ret (v := .tuple #[.agg #[.int .i64 (mkN n d), .int .i64 (mkD n d)], .int .i64 (mkE n d)]) ?_ rfl ⟨rfl, by (repeat (first | with_reducible refine Below.drew ?_ | with_reducible refine Kin.Below.setC ?_ (Nat.le_refl _))); with_reducible exact hB⟩
          rw [HE.out, HN.out, HD.out]
          simp (maxDischargeDepth := 8) [results, Try.results11, go_sem, hc0, hc1, hn0, hd0]
          try omega
end R12
end Go.Proofs
