/- down, floor and both forms of Times walked. -/
import Derived.Test.YtakahkhofjpjoaaOp
namespace Go.Proofs
open Go.RowKit Go.Shelf Go.Kin
namespace R12
theorem w64 {n : Int} (h1 : -9223372036854775808 ≤ n) (h2 : n ≤ 9223372036854775807) : wrap64 n = n := IntWalk.wrap64_in n ⟨h1, h2⟩
theorem down_w (n d : Int) (h1 : -1152921504606846976 ≤ n) (h2 : n ≤ 1152921504606846976) (h3 : 1 ≤ d) (h4 : d ≤ 1073741824) :
    wrap64 ((wrap64 (n - (wrap64 (n.tmod d + d)).tmod d)).tdiv d) = n / d := by
  have ⟨a1, a2⟩ := tmod_bd n d h3
  have ⟨a3, a4⟩ := tmod_bd (n.tmod d + d) d h3
  rw [w64 (n := n.tmod d + d) (by omega) (by omega), w64 (n := n - (n.tmod d + d).tmod d) (by omega) (by omega), down_eq n d h3]
  have h5 := down_eq n d h3
  have ⟨a5, a6⟩ := tdiv_bd n d h3 h1 h2
  have ⟨a7, a8⟩ := tmod_bd n d h3
  rcases Int.lt_or_le (n.tmod d) 0 with h | h
  · have := floor_neg n d h3 h; exact w64 (by omega) (by omega)
  · have := floor_pos n d h3 h; exact w64 (by omega) (by omega)
set_option maxHeartbeats 400000 in
theorem down_any (n d : Int) (w : World) (h1 : -1152921504606846976 ≤ n) (h2 : n ≤ 1152921504606846976) (h3 : 1 ≤ d) (h4 : d ≤ 1073741824) :
    Calls Try.prog 36 #[.int .i64 n, .int .i64 d] w fun e w' => e = .returned (.int .i64 (n / d)) ∧ w' = w := by
  go_enter Try.func36, Try.ntmps36
  go_wp2
  go_ret
  exact ⟨ret_val (by show Value.int _ _ = _; rw [down_w n d h1 h2 h3 h4]), rfl⟩
set_option maxHeartbeats 400000 in
theorem floor_any (n d : Int) (w : World) (h1 : -1152921504606846976 ≤ n) (h2 : n ≤ 1152921504606846976) (h3 : 1 ≤ d) (_h4 : d ≤ 1073741824) :
    Calls Try.prog 37 #[.int .i64 n, .int .i64 d] w fun e w' => e = .returned (.int .i64 (n / d)) ∧ w' = w := by
  have ⟨a5, a6⟩ := tdiv_bd n d h3 h1 h2
  by_cases h : n.tmod d < 0
  · have H := Lib.hid (floor_neg n d h3 h)
    go_enter Try.func37, Try.ntmps37
    go_wp2
    go_ret
    exact ⟨ret_val (by show Value.int _ _ = _; rw [H.out]), rfl⟩
  · have H := Lib.hid (floor_pos n d h3 (by omega))
    go_enter Try.func37, Try.ntmps37
    go_wp2
    go_ret
    exact ⟨ret_val (by show Value.int _ _ = _; rw [H.out]), rfl⟩
/-- what Times returns -/
def tmOk (n d m : Int) : Bool := okB n d && decide (-1073741824 ≤ m ∧ m ≤ 1073741824)
def tmLo (n d m : Int) : Int := if tmOk n d m then n * m / d else 0
def tmHi (n d m : Int) : Int := if tmOk n d m then -(-n * m / d) else 0
def tmE (n d m : Int) : Int := if tmOk n d m then 0 else if okB n d then 1 else 120
theorem tm_bad {n d m : Int} (h : okB n d = false) : tmLo n d m = 0 ∧ tmHi n d m = 0 ∧ tmE n d m = 120 := by simp [tmLo, tmHi, tmE, tmOk, h]
theorem tm_arg {n d m : Int} (h : okB n d = true) (h' : ¬ (-1073741824 ≤ m ∧ m ≤ 1073741824)) : tmLo n d m = 0 ∧ tmHi n d m = 0 ∧ tmE n d m = 1 := by simp [tmLo, tmHi, tmE, tmOk, h, h']
theorem tm_ok {n d m : Int} (h : okB n d = true) (h' : -1073741824 ≤ m ∧ m ≤ 1073741824) : tmLo n d m = n * m / d ∧ tmHi n d m = -(-n * m / d) ∧ tmE n d m = 0 := by simp [tmLo, tmHi, tmE, tmOk, h, h']
set_option maxHeartbeats 1000000 in
theorem times_any (n d m : Int) (w : World) (hn : I64 n) (hd : I64 d) (hm : I64 m) :
    Calls Try.prog 15 #[.agg #[.int .i64 n, .int .i64 d], .int .i64 m] w fun e w' => e = .returned (.tuple #[.int .i64 (tmLo n d m), .int .i64 (tmHi n d m), .int .i64 (tmE n d m)]) ∧ Below w.heap.size w w' := by
  obtain ⟨h1, h2⟩ := hn; obtain ⟨h3, h4⟩ := hd; obtain ⟨h5, h6⟩ := hm
  cases hb : okB n d
  · have H := Lib.hid (tm_bad (m := m) hb)
    have HB := Lib.hid (chkE_false hb); clear hb
    go_enter Try.func15, Try.ntmps15
    go_wp2_with (go_at_call 13; refine (check_any _ _ _ (by omega) (by omega) (by omega) (by omega)).mono ?_; rintro e w' ⟨rfl, hb⟩; rw [HB.out])
    go_ret3
    exact ⟨by rw [H.out.1, H.out.2.1, H.out.2.2]; rfl, (Kin.Below.allocC (Below.refl _ _) (Nat.le_refl _)).trans (hb.mono (by simp))⟩
  · have HB := Lib.hid (chkE_true hb)
    by_cases hr : -1073741824 ≤ m ∧ m ≤ 1073741824
    · have H := Lib.hid (tm_ok (m := m) hb hr)
      obtain ⟨v1, v2, v3, v4, -⟩ := okB_iff.1 hb
      obtain ⟨p1, p2⟩ := mul30 v3 v4 hr.1 hr.2
      obtain ⟨p3, p4⟩ := mul30 (a := -n) (b := m) (by omega) (by omega) hr.1 hr.2
      have e1 : IntKind.i64.wrap (n * m) = n * m := wrap_in (by omega) (by omega)
      have e2 : IntKind.i64.wrap (-n * m) = -n * m := wrap_in (by omega) (by omega)
      have e3 : IntKind.i64.wrap (-n) = -n := wrap_in (by omega) (by omega)
      have e4 : IntKind.i64.wrap (-(-n * m / d)) = -(-n * m / d) := by
        have h := Int.natAbs_ediv_le_natAbs (-n * m) d
        exact wrap_in (by omega) (by omega)
      obtain ⟨r1, r2⟩ := hr
      clear hb
      have E1 := Lib.hid e1; clear e1
      have E2 := Lib.hid e2; clear e2
      have E3 := Lib.hid e3; clear e3
      have E4 := Lib.hid e4; clear e4
      go_enter Try.func15, Try.ntmps15
      go_wp2_with fail
      refine (check_any n d _ (by omega) (by omega) (by omega) (by omega)).mono ?_
      rintro e w1 ⟨rfl, hl1⟩
      rw [HB.out]
      have hsz : w.heap.size + 1 ≤ w1.heap.size := by have := hl1.size; simpa using this
      have hB1 := (Kin.Below.allocC (Below.refl w.heap.size w) (Nat.le_refl _) (o := Obj.cells #[Value.int IntKind.i64 n, Value.int IntKind.i64 d] 23)).trans (hl1.mono (by simp))
      have a1 : w1.cell? ⟨w.heap.size, 0, none⟩ = some (.int .i64 n) := Later.cell hl1 (by simp [go_sem])
      have a2 : w1.cell? ⟨w.heap.size, 1, none⟩ = some (.int .i64 d) := Later.cell hl1 (by simp [go_sem])
      clear hl1
      go_wp2_with fail
      have e1 := E1.out
      have e2 := E2.out
      have e3 := E3.out
      have e4 := E4.out
      go_quiet ((go_at_call 36; exact Calls.quiet_of_same (down_any _ _ _ (by omega) (by omega) (by omega) (by omega))))
      clear e1 e2 e3 e4
      go_wp2
      go_ret3
      exact ⟨by rw [H.out.1, H.out.2.1, H.out.2.2]; rfl, Kin.Below.drewNC hB1⟩
    · have H := Lib.hid (tm_arg (m := m) hb hr)
      clear hb
      rcases Int.lt_or_le m (-1073741824) with hm1 | hm1
      all_goals
        first
          | (have hm2 : m < -1073741824 := hm1; clear hr)
          | (have hm2 : 1073741824 < m := (by omega); clear hr)
        go_enter Try.func15, Try.ntmps15
        go_wp2_with (go_at_call 13; refine (check_any _ _ _ (by omega) (by omega) (by omega) (by omega)).mono ?_; rintro e w' ⟨rfl, hb⟩; rw [HB.out])
        go_ret3
        exact ⟨by rw [H.out.1, H.out.2.1, H.out.2.2]; rfl, (Kin.Below.allocC (Below.refl _ _) (Nat.le_refl _)).trans (hb.mono (by simp))⟩
end R12
end Go.Proofs
