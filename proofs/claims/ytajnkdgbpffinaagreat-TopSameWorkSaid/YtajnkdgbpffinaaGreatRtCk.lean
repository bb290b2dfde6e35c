/- What the functions of ratio compute, as plain functions on integers. No program. -/
import Derived.WalkKit
import Derived.Test.YtajnkdgbpffinaaGreatRtDiv
set_option linter.unusedSectionVars false
set_option linter.unusedVariables false
set_option linter.unusedSimpArgs false
namespace Go.Proofs
namespace R12
def okB (n d : Int) : Bool := decide (1 <= d /\ d <= 1073741824 /\ -1073741824 <= n /\ n <= 1073741824 /\ Nat.gcd n.natAbs d.natAbs = 1)
theorem okB_iff {n d : Int} : okB n d = true ↔ 1 <= d /\ d <= 1073741824 /\ -1073741824 <= n /\ n <= 1073741824 /\ Nat.gcd n.natAbs d.natAbs = 1 := by simp [okB]
theorem mul_bd {a b : Int} {A B : Nat} (ha : a.natAbs <= A) (hb : b.natAbs <= B) : -((A * B : Nat) : Int) <= a * b /\ a * b <= ((A * B : Nat) : Int) := by
 have h : (a * b).natAbs <= A * B := by rw [Int.natAbs_mul]; exact Nat.mul_le_mul ha hb
 omega
theorem mul30 {a b : Int} (h1 : -1073741824 <= a) (h2 : a <= 1073741824) (h3 : -1073741824 <= b) (h4 : b <= 1073741824) : -1152921504606846976 <= a * b /\ a * b <= 1152921504606846976 := by
 have := mul_bd (a := a) (b := b) (A := 1073741824) (B := 1073741824) (by omega) (by omega)
 simpa using this
end R12
end Go.Proofs

set_option maxRecDepth 100000
set_option maxHeartbeats 400000000
namespace Go.Proofs
open Go.RowKit Go.Shelf Go.Kin
namespace R12
theorem ret_val {a b : Value} (h : a = b) : Ending.returned a = Ending.returned b := by rw [h]
def i64 (n : Int) : Prop := -9223372036854775808 <= n /\ n <= 9223372036854775807
theorem magnitude_any (n : Int) (w : World) (h1 : -9223372036854775808 <= n) (h2 : n <= 9223372036854775807) :
  Calls Tryz.prog 106 #[.int .i64 n] w fun e w' => e = .returned (.int .u64 n.natAbs) /\ w' = w := by
 by_cases hn : n < 0
 ·have e1 : IntKind.u64.wrap (-IntKind.u64.wrap n) = (n.natAbs : Int) := by
   simp only [IntKind.wrap, IntKind.bits, IntKind.signed]; simp; omega
  have E1 := Lib.hid e1; clear e1
  go_enter Tryz.func106, Tryz.ntmps106
  go_wp2
  go_ret
  exact ⟨ret_val (by show Value.int _ _ = _; rw [E1.out]), rfl⟩
 ·go_enter Tryz.func106, Tryz.ntmps106
  go_wp2
  go_ret
  exact ⟨ret_val (by show Value.int _ _ = _; congr 1; omega), rfl⟩

end R12
end Go.Proofs

set_option maxRecDepth 100000
set_option maxHeartbeats 400000000
namespace Go.Proofs
open Go.RowKit Go.Shelf Go.Kin
namespace R12
def chkE (n d : Int) : Int := if okB n d then 0 else 120
theorem chkE_bad {n d : Int} (h : ¬ (1 <= d /\ d <= 1073741824 /\ -1073741824 <= n /\ n <= 1073741824 /\ Nat.gcd n.natAbs d.natAbs = 1)) : chkE n d = 120 := by
 unfold chkE; rw [if_neg]; rw [okB_iff]; exact h
theorem chkE_good {n d : Int} (h : 1 <= d /\ d <= 1073741824 /\ -1073741824 <= n /\ n <= 1073741824 /\ Nat.gcd n.natAbs d.natAbs = 1) : chkE n d = 0 := by
 unfold chkE; rw [if_pos]; rw [okB_iff]; exact h
theorem check_b1 (n d : Int) (w : World) (h : d < 1) :
  Calls Tryz.prog 83 #[.agg #[.int .i64 n, .int .i64 d]] w fun e w' => e = .returned (.int .i64 120) /\ Under w.heap.size w w' := by
 have e0 : decide (d < 1) = true := by simp; omega
 go_enter Tryz.func83, Tryz.ntmps83
 go_wp2
 go_quiet (fail)
 go_wp2
 go_ret
 exact ⟨rfl, Kin.Under.drewNC (Kin.Under.allocC (Kin.Under.refl _ _) (Nat.le_refl _))⟩
theorem check_b2 (n d : Int) (w : World) (c : 1 <= d) (h : 1073741824 < d) :
  Calls Tryz.prog 83 #[.agg #[.int .i64 n, .int .i64 d]] w fun e w' => e = .returned (.int .i64 120) /\ Under w.heap.size w w' := by
 have e0 : decide (d < 1) = false := by simp; omega
 have e1 : decide (1073741824 < d) = true := by simp; omega
 go_enter Tryz.func83, Tryz.ntmps83
 go_wp2
 go_quiet (fail)
 go_wp2
 go_ret
 exact ⟨rfl, Kin.Under.drewNC (Kin.Under.allocC (Kin.Under.refl _ _) (Nat.le_refl _))⟩
theorem check_b3 (n d : Int) (w : World) (c : 1 <= d) (c' : d <= 1073741824) (h : n < -1073741824) :
  Calls Tryz.prog 83 #[.agg #[.int .i64 n, .int .i64 d]] w fun e w' => e = .returned (.int .i64 120) /\ Under w.heap.size w w' := by
 have e0 : decide (d < 1) = false := by simp; omega
 have e1 : decide (1073741824 < d) = false := by simp; omega
 have e2 : decide (n < -1073741824) = true := by simp; omega
 go_enter Tryz.func83, Tryz.ntmps83
 go_wp2
 go_quiet (fail)
 go_wp2
 go_ret
 exact ⟨rfl, Kin.Under.drewNC (Kin.Under.allocC (Kin.Under.refl _ _) (Nat.le_refl _))⟩
theorem check_b4 (n d : Int) (w : World) (c : 1 <= d) (c' : d <= 1073741824) (c'' : -1073741824 <= n) (h : 1073741824 < n) :
  Calls Tryz.prog 83 #[.agg #[.int .i64 n, .int .i64 d]] w fun e w' => e = .returned (.int .i64 120) /\ Under w.heap.size w w' := by
 have e0 : decide (d < 1) = false := by simp; omega
 have e1 : decide (1073741824 < d) = false := by simp; omega
 have e2 : decide (n < -1073741824) = false := by simp; omega
 have e3 : decide (1073741824 < n) = true := by simp; omega
 go_enter Tryz.func83, Tryz.ntmps83
 go_wp2
 go_quiet (fail)
 go_wp2
 go_ret
 exact ⟨rfl, Kin.Under.drewNC (Kin.Under.allocC (Kin.Under.refl _ _) (Nat.le_refl _))⟩
theorem check_ok (n d : Int) (w : World) (c1 : 1 <= d) (c2 : d <= 1073741824) (c3 : -1073741824 <= n) (c4 : n <= 1073741824) :
  Calls Tryz.prog 83 #[.agg #[.int .i64 n, .int .i64 d]] w fun e w' => e = .returned (.int .i64 (chkE n d)) /\ Under w.heap.size w w' := by
  go_enter Tryz.func83, Tryz.ntmps83
  go_wp2
  obtain ⟨w1, hw1⟩ : ∃ w1, w.alloc (Obj.cells #[Value.int IntKind.i64 n, Value.int IntKind.i64 d] 30) = w1 := ⟨_, rfl⟩
  have hc0 : w1.cell? ⟨w.heap.size, 0, none⟩ = some (.int .i64 n) := by rw [<- hw1]; simp [go_sem]
  have hc1 : w1.cell? ⟨w.heap.size, 1, none⟩ = some (.int .i64 d) := by rw [<- hw1]; simp [go_sem]
  have hsz : w.heap.size + 1 = w1.heap.size := by rw [<- hw1]; simp
  have hB : Under w.heap.size w w1 := by rw [<- hw1]; exact (Kin.Under.refl _ _).alloc (Nat.le_refl _) _
  rw [hw1]
  clear hw1
  have hwr : IntKind.u64.wrap d = d := by simp only [IntKind.wrap, IntKind.bits, IntKind.signed]; simp; omega
  have d1 : decide (d < 1) = false := by simp; omega
  have d2 : decide (1073741824 < d) = false := by simp; omega
  have d3 : decide (n < -1073741824) = false := by simp; omega
  have d4 : decide (1073741824 < n) = false := by simp; omega
  refine wp_region_quiet (C := Later w1) (by decide +kernel) (by decide +kernel) (Later.drew1 _) ?_
  repeat (refine wpQuiet_step (fun K hK => ?_); go_simp; first|(refine hK _ ?_; clear hK K)|(apply Exists.intro; refine ⟨fun W hW => ?_, hK _ ?_⟩; (first|(go_at_call 106; refine (magnitude_any _ _ (by omega) (by omega)).mono ?_; rintro e w' ⟨rfl, rfl⟩; exact ⟨rfl, hW⟩)|(go_at_call 105; refine (divisor_int _ _ _ (by omega) (by omega) (by omega) (by omega)).mono ?_; rintro e w' ⟨rfl, hb⟩; exact ⟨rfl, hW.step hb⟩)|(have e0 := Later.cell hW hc0; have e1 := Later.cell hW hc1; clear hW; go_simp; first|exact rfl|exact ⟨rfl, rfl⟩)); clear hK K))
  refine wpQuiet_nil ?_
  intro W1 hW1
  have hB1 := hW1.below hB (by rw [<- hsz]; exact Nat.le_succ _)
  clear hwr d1 d2 d3 d4
  by_cases hg : Nat.gcd n.natAbs d.natAbs = 1
  ·have H : Hid (chkE n d = 0) := Lib.hid (chkE_good ⟨c1, c2, c3, c4, hg⟩)
   rw [hg]
   go_wp2
   go_ret
   exact ⟨by rw [H.out]; rfl, hB1⟩
  ·have H : Hid (chkE n d = 120) := Lib.hid (chkE_bad (fun h => hg h.2.2.2.2))
   have hg1 : (((Nat.gcd n.natAbs d.natAbs : Nat) : Int) != 1) = true := by simp; omega
   generalize Nat.gcd n.natAbs d.natAbs = g at *
   go_wp2
   go_ret
   exact ⟨by rw [H.out]; rfl, hB1⟩
theorem check_any (n d : Int) (w : World) (_h1 : -9223372036854775808 <= n) (_h2 : n <= 9223372036854775807) (_h3 : -9223372036854775808 <= d) (_h4 : d <= 9223372036854775807) :
  Calls Tryz.prog 83 #[.agg #[.int .i64 n, .int .i64 d]] w fun e w' => e = .returned (.int .i64 (chkE n d)) /\ Under w.heap.size w w' := by
 by_cases c1 : d < 1
 ·rw [chkE_bad (by omega)]; exact check_b1 n d w c1
 ·by_cases c2 : 1073741824 < d
  ·rw [chkE_bad (by omega)]; exact check_b2 n d w (by omega) c2
  ·by_cases c3 : n < -1073741824
   ·rw [chkE_bad (by omega)]; exact check_b3 n d w (by omega) (by omega) c3
   ·by_cases c4 : 1073741824 < n
    ·rw [chkE_bad (by omega)]; exact check_b4 n d w (by omega) (by omega) (by omega) c4
    ·exact check_ok n d w (by omega) (by omega) (by omega) (by omega)
end R12
end Go.Proofs
