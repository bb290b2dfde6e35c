/- The reference's Times walked. -/
import Derived.Test.YtakahkhofjpjoaaTi
namespace Go.Proofs
open Go.RowKit Go.Shelf Go.Kin
namespace R12
set_option maxHeartbeats 1000000 in
theorem rtimes_any (n d m : Int) (w : World) (_hn : I64 n) (_hd : I64 d) (hm : I64 m) :
    Calls Try.prog 16 #[.agg #[.int .i64 n, .int .i64 d], .int .i64 m] w fun e w' => e = .returned (.tuple #[.int .i64 (tmLo n d m), .int .i64 (tmHi n d m), .int .i64 (tmE n d m)]) ∧ Below w.heap.size w w' := by
  obtain ⟨h5, h6⟩ := hm
  cases hb : okB n d
  · have H := Lib.hid (tm_bad (m := m) hb)
    have HB := Lib.hid hb; clear hb
    go_enter Try.func16, Try.ntmps16
    go_wp2_with (go_at_call 20; refine (valid_any _ _ _).mono ?_; rintro e w' ⟨rfl, hb⟩; rw [HB.out])
    go_ret3
    exact ⟨by rw [H.out.1, H.out.2.1, H.out.2.2]; rfl, (Kin.Below.allocC (Below.refl _ _) (Nat.le_refl _)).trans (hb.mono (by simp))⟩
  · have HB := Lib.hid hb
    by_cases hr : -1073741824 ≤ m ∧ m ≤ 1073741824
    · have H := Lib.hid (tm_ok (m := m) hb hr)
      obtain ⟨v1, v2, v3, v4, -⟩ := okB_iff.1 hb
      obtain ⟨p1, p2⟩ := mul30 v3 v4 hr.1 hr.2
      obtain ⟨p3, p4⟩ := mul30 (a := -n) (b := m) (by omega) (by omega) hr.1 hr.2
      have e1 : IntKind.i64.wrap (n * m) = n * m := wrap_in (by omega) (by omega)
      have e2 : IntKind.i64.wrap (-n * m) = -n * m := wrap_in (by omega) (by omega)
      have e3 : IntKind.i64.wrap (-n) = -n := wrap_in (by omega) (by omega)
      have e4 : IntKind.i64.wrap (-(-n * m / d)) = -(-n * m / d) := by
        have h := Int.natAbs_ediv_le_natAbs (-n * m) d
        exact wrap_in (by omega) (by omega)
      obtain ⟨r1, r2⟩ := hr
      clear hb
      have E1 := Lib.hid e1; clear e1
      have E2 := Lib.hid e2; clear e2
      have E3 := Lib.hid e3; clear e3
      have E4 := Lib.hid e4; clear e4
      go_enter Try.func16, Try.ntmps16
      go_wp2_with fail
      refine (valid_any n d _).mono ?_
      rintro e w1 ⟨rfl, hl1⟩
      rw [HB.out]
      have hsz : w.heap.size + 1 ≤ w1.heap.size := by have := hl1.size; simpa using this
      have hB1 := (Kin.Below.allocC (Below.refl w.heap.size w) (Nat.le_refl _) (o := Obj.cells #[Value.int IntKind.i64 n, Value.int IntKind.i64 d] 23)).trans (hl1.mono (by simp))
      have a1 : w1.cell? ⟨w.heap.size, 0, none⟩ = some (.int .i64 n) := Later.cell hl1 (by simp [go_sem])
      have a2 : w1.cell? ⟨w.heap.size, 1, none⟩ = some (.int .i64 d) := Later.cell hl1 (by simp [go_sem])
      clear hl1
      go_wp2_with fail
      have e1 := E1.out
      have e2 := E2.out
      have e3 := E3.out
      have e4 := E4.out
      go_quiet ((go_at_call 37; exact Calls.quiet_of_same (floor_any _ _ _ (by omega) (by omega) (by omega) (by omega))))
      clear e1 e2 e3 e4
      go_wp2
      go_ret3
      exact ⟨by rw [H.out.1, H.out.2.1, H.out.2.2]; rfl, Kin.Below.drewNC hB1⟩
    · have H := Lib.hid (tm_arg (m := m) hb hr)
      clear hb
      rcases Int.lt_or_le m (-1073741824) with hm1 | hm1
      all_goals
        first
          | (have hm2 : m < -1073741824 := hm1; clear hr)
          | (have hm2 : 1073741824 < m := (by omega); clear hr)
        go_enter Try.func16, Try.ntmps16
        go_wp2_with (go_at_call 20; refine (valid_any _ _ _).mono ?_; rintro e w' ⟨rfl, hb⟩; rw [HB.out])
        go_ret3
        exact ⟨by rw [H.out.1, H.out.2.1, H.out.2.2]; rfl, (Kin.Below.allocC (Below.refl _ _) (Nat.le_refl _)).trans (hb.mono (by simp))⟩
end R12
end Go.Proofs
