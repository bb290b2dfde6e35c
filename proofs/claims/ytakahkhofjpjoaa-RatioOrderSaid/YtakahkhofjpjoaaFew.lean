/- few and all of the statements walked. -/
import Derived.Test.YtakahkhofjpjoaaSane
import Derived.Test.YtakahkhofjpjoaaGenCell
import Derived.Test.YtakahkhofjpjoaaMath
namespace Go.Proofs
open Go.RowKit Go.Shelf Go.Kin
namespace R12
set_option maxHeartbeats 400000 in
theorem all_zero (b : Nat) (len cap : Nat) (w : World) (hl : len ≤ 1000) (hc : ∀ i, i < len → w.cell? ⟨b, i, none⟩ = some (.int .i64 0)) :
    Calls Try.prog 23 #[.slice (some ⟨b, 0, none⟩) len cap] w fun e w' => e = .returned (.bool true) ∧ w' = w := by
  have HC := Lib.hid hc; clear hc
  go_enter Try.func23, Try.ntmps23
  go_wp2
  go_loop [7] (fun i => ∃ k : Nat, k ≤ len ∧ i = .int .i64 k) (fun i => len - (intOf i).toNat)
  case atStart => exact ⟨0, Nat.zero_le _, rfl⟩
  case round =>
    obtain ⟨k, hk, rfl⟩ := hrel
    by_cases hlt : k < len
    · have hcell : w.cell? ⟨b, k, none⟩ = some (.int .i64 0) := HC.out k hlt
      go_wp2
      go_round
      case rel => exact ⟨k + 1, by omega, by go_num⟩
      case measure => simp [intOf]; omega
    · go_wp2
      go_ret
      exact ⟨rfl, rfl⟩
/-- the numbers that few makes -/
def fwX (n : Int) : Int := n.tmod 512
def fwY (d : Int) : Int := 1 + d % 1024
theorem fwX_bd (n : Int) : -511 ≤ fwX n ∧ fwX n ≤ 511 := by
  have h : (n.tmod 512).natAbs = n.natAbs % 512 := Int.natAbs_tmod n 512
  have := Nat.mod_lt n.natAbs (by omega : 0 < 512)
  unfold fwX; omega
theorem fwY_bd (d : Int) : 1 ≤ fwY d ∧ fwY d ≤ 1024 := by unfold fwY; omega
theorem few_ok (n d : Int) : mkE (fwX n) (fwY d) = 0 := by
  obtain ⟨h1, h2⟩ := fwX_bd n; obtain ⟨h3, h4⟩ := fwY_bd d
  exact mk_le (by omega) (by omega) (by omega) (by omega) (by omega)
set_option maxHeartbeats 400000 in
theorem few_any (n d : Int) (w : World) (h1 : -32768 ≤ n) (h2 : n ≤ 32767) (h3 : 0 ≤ d) (h4 : d ≤ 65535) :
    Calls Try.prog 24 #[.int .i16 n, .int .u16 d] w fun e w' => e = .returned (.tuple #[.agg #[.int .i64 (mkN (fwX n) (fwY d)), .int .i64 (mkD (fwX n) (fwY d))], .bool true]) ∧ Below w.heap.size w w' := by
  have HE := Lib.hid (few_ok n d)
  obtain ⟨g1, g2⟩ := fwX_bd n
  have HX : Hid (n.tmod 512 = fwX n) := Lib.hid rfl
  have HY : Hid (1 + d % 1024 = fwY d) := Lib.hid rfl
  go_enter Try.func24, Try.ntmps24
  obtain ⟨g3, g4⟩ := fwY_bd d
  go_wp2_with fail
  rw [HX.out, HY.out]
  refine (make_any (fwX n) (fwY d) _ (by omega) (by omega) (by omega) (by omega)).mono ?_
  rintro e w1 ⟨rfl, hl1⟩
  rw [HE.out]
  have hs : w.heap.size + 1 ≤ w1.heap.size := by have := hl1.size; simpa using this
  have hs1 : w.heap.size < w1.heap.size := by omega
  have hB1 := (Kin.Below.allocC (Below.refl w.heap.size w) (Nat.le_refl _) (o := Obj.cells #[Value.int IntKind.i64 0, Value.int IntKind.i64 0] 23)).trans (hl1.mono (by simp))
  have a1 : w1.cell? ⟨w.heap.size, 0, none⟩ = some (.int .i64 0) := Later.cell hl1 (by simp [go_sem])
  have a2 : w1.cell? ⟨w.heap.size, 1, none⟩ = some (.int .i64 0) := Later.cell hl1 (by simp [go_sem])
  have a3 : w1.frozen? ⟨w.heap.size, 0, none⟩ = false := Later.frozen hl1 (by simp) (by simp [go_sem])
  have a4 : w1.frozen? ⟨w.heap.size, 1, none⟩ = false := Later.frozen hl1 (by simp) (by simp [go_sem])
  clear hl1
  go_wp2
  refine bodyPost_ret (v := .tuple #[.agg #[.int .i64 (mkN (fwX n) (fwY d)), .int .i64 (mkD (fwX n) (fwY d))], .bool true]) ?_ rfl ⟨rfl, ?_⟩
  · simp (maxDischargeDepth := 8) [results, Try.results24, go_sem, a1, a2, hs1]
  · exact Kin.Below.allocC (Kin.Below.setC (Kin.Below.setC hB1 (by omega)) (by omega)) (by simp [World.setCell]; omega)
end R12
end Go.Proofs
