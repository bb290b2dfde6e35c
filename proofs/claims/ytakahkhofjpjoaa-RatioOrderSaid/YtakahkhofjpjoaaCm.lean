/- Compare, Cmp and the reference's Cmp walked. -/
import Derived.Test.YtakahkhofjpjoaaCk
import Derived.Test.YtakahkhofjpjoaaRk
namespace Go.Proofs
open Go.RowKit Go.Shelf Go.Kin
namespace R12
/-- sign of a comparison -/
def cmpI (x y : Int) : Int := if x < y then -1 else if y < x then 1 else 0
set_option maxHeartbeats 400000 in
theorem compare_any (x y : Int) (w : World) :
    Calls Try.prog 42 #[.int .i64 x, .int .i64 y] w fun e w' => e = .returned (.int .i64 (cmpI x y)) ∧ w' = w := by
  rcases Int.lt_trichotomy x y with h | h | h
  · have H : Hid (cmpI x y = -1) := Lib.hid (by simp [cmpI, h])
    go_enter Try.func42, Try.ntmps42
    go_wp2
    go_ret
    exact ⟨by rw [H.out]; rfl, rfl⟩
  · have H : Hid (cmpI x y = 0) := Lib.hid (by simp [cmpI, h])
    subst h
    go_enter Try.func42, Try.ntmps42
    go_wp2
    go_ret
    exact ⟨by rw [H.out]; rfl, rfl⟩
  · have H : Hid (cmpI x y = 1) := Lib.hid (by unfold cmpI; rw [if_neg (by omega), if_pos h])
    have h' : ¬ x < y := by omega
    go_enter Try.func42, Try.ntmps42
    go_wp2
    go_ret
    exact ⟨by rw [H.out]; rfl, rfl⟩
theorem chkE_true {n d : Int} (h : okB n d = true) : chkE n d = 0 := by simp [chkE, h]
theorem chkE_false {n d : Int} (h : okB n d = false) : chkE n d = 120 := by simp [chkE, h]
/-- int64 -/
def I64 (n : Int) : Prop := -9223372036854775808 ≤ n ∧ n ≤ 9223372036854775807
/-- Cmp: its value and error -/
def cmpV (n d m k : Int) : Int := if okB n d && okB m k then cmpI (n * k) (m * d) else 0
def bothE (n d m k : Int) : Int := if okB n d && okB m k then 0 else 120
set_option maxHeartbeats 1000000 in
theorem cmp_any (n d m k : Int) (w : World) (hn : I64 n) (hd : I64 d) (hm : I64 m) (hk : I64 k) :
    Calls Try.prog 22 #[.agg #[.int .i64 n, .int .i64 d], .agg #[.int .i64 m, .int .i64 k]] w fun e w' => e = .returned (.tuple #[.int .i64 (cmpV n d m k), .int .i64 (bothE n d m k)]) ∧ Below w.heap.size w w' := by
  obtain ⟨h1, h2⟩ := hn; obtain ⟨h3, h4⟩ := hd; obtain ⟨h5, h6⟩ := hm; obtain ⟨h7, h8⟩ := hk
  cases hb : okB n d
  · have H : Hid (cmpV n d m k = 0 ∧ bothE n d m k = 120) := Lib.hid (by simp [cmpV, bothE, hb])
    have HB := Lib.hid (chkE_false hb); clear hb
    go_enter Try.func22, Try.ntmps22
    go_wp2_with (go_at_call 13; refine (check_any _ _ _ (by omega) (by omega) (by omega) (by omega)).mono ?_; rintro e w' ⟨rfl, hb⟩; rw [HB.out])
    go_ret2
    exact ⟨by rw [H.out.1, H.out.2]; rfl, ((Kin.Below.allocC (Kin.Below.allocC (Below.refl _ _) (Nat.le_refl _)) (by simp))).trans (hb.mono (by simp; omega))⟩
  · have HB := Lib.hid (chkE_true hb)
    cases hb2 : okB m k
    all_goals
      first
        | (have H : Hid (cmpV n d m k = 0 ∧ bothE n d m k = 120) := Lib.hid (by simp [cmpV, bothE, hb2]); have HB2 := Lib.hid (chkE_false hb2))
        | (have H : Hid (cmpV n d m k = cmpI (n * k) (m * d) ∧ bothE n d m k = 0) := Lib.hid (by simp [cmpV, bothE, hb, hb2]); have HB2 := Lib.hid (chkE_true hb2); obtain ⟨a1, a2, a3, a4, -⟩ := okB_iff.1 hb; obtain ⟨b1, b2, b3, b4, -⟩ := okB_iff.1 hb2; obtain ⟨p1, p2⟩ := mul30 a3 a4 (by omega : -1073741824 ≤ k) b2; obtain ⟨p3, p4⟩ := mul30 b3 b4 (by omega : -1073741824 ≤ d) a2)
      clear hb hb2
      go_enter Try.func22, Try.ntmps22
      go_wp2_with fail
      refine (check_any n d _ (by omega) (by omega) (by omega) (by omega)).mono ?_
      rintro e w1 ⟨rfl, hb⟩
      rw [HB.out]
      have hs := hb.size
      simp only [World.size_alloc] at hs
      have e0 : w1.cell? ⟨w.heap.size, 0, none⟩ = some (.int .i64 n) := (hb.cell (p := ⟨w.heap.size, 0, none⟩) (by simp; omega)).trans (by simp [go_sem])
      have e1 : w1.cell? ⟨w.heap.size, 1, none⟩ = some (.int .i64 d) := (hb.cell (p := ⟨w.heap.size, 1, none⟩) (by simp; omega)).trans (by simp [go_sem])
      have e2 : w1.cell? ⟨w.heap.size + 1, 0, none⟩ = some (.int .i64 m) := (hb.cell (p := ⟨w.heap.size + 1, 0, none⟩) (by simp)).trans (by simp [go_sem])
      have e3 : w1.cell? ⟨w.heap.size + 1, 1, none⟩ = some (.int .i64 k) := (hb.cell (p := ⟨w.heap.size + 1, 1, none⟩) (by simp)).trans (by simp [go_sem])
      have hB := ((Kin.Below.allocC (Kin.Below.allocC (Below.refl w.heap.size w) (Nat.le_refl _)) (by simp) : Below w.heap.size w ((w.alloc (Obj.cells #[Value.int IntKind.i64 n, Value.int IntKind.i64 d] 23)).alloc (Obj.cells #[Value.int IntKind.i64 m, Value.int IntKind.i64 k] 23)))).trans (hb.mono (by simp; omega))
      clear hb
      go_wp2_with fail
      refine (check_any m k _ (by omega) (by omega) (by omega) (by omega)).mono ?_
      rintro e w2 ⟨rfl, hb2⟩
      rw [HB2.out]
      have g0 : w2.cell? ⟨w.heap.size, 0, none⟩ = some (.int .i64 n) := (hb2.cell (p := ⟨w.heap.size, 0, none⟩) (by simp; omega)).trans e0
      have g1 : w2.cell? ⟨w.heap.size, 1, none⟩ = some (.int .i64 d) := (hb2.cell (p := ⟨w.heap.size, 1, none⟩) (by simp; omega)).trans e1
      have g2 : w2.cell? ⟨w.heap.size + 1, 0, none⟩ = some (.int .i64 m) := (hb2.cell (p := ⟨w.heap.size + 1, 0, none⟩) (by simp; omega)).trans e2
      have g3 : w2.cell? ⟨w.heap.size + 1, 1, none⟩ = some (.int .i64 k) := (hb2.cell (p := ⟨w.heap.size + 1, 1, none⟩) (by simp; omega)).trans e3
      have hB2 := hB.trans (hb2.mono (by omega))
      clear hb2 hB e0 e1 e2 e3
      go_wp2_with (go_at_call 42; refine (compare_any _ _ _).mono ?_; rintro e w' ⟨rfl, rfl⟩)
      go_ret2
      exact ⟨by rw [H.out.1, H.out.2]; rfl, hB2⟩
end R12
end Go.Proofs
