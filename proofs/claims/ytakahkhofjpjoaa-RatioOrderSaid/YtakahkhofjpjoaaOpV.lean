/- The operations at valid operands, their results under given names. -/
import Derived.Test.YtakahkhofjpjoaaSane
import Derived.Test.YtakahkhofjpjoaaFew
import Derived.Test.YtakahkhofjpjoaaFieldMath
import Derived.Test.YtakahkhofjpjoaaOrdMath
namespace Go.Proofs
open Go.RowKit Go.Shelf Go.Kin
namespace R12
theorem I64_of_ok {n d : Int} (h : okB n d = true) : I64 n ∧ I64 d := by
  obtain ⟨h1, h2, h3, h4, -⟩ := okB_iff.1 h; unfold I64; omega
/-- what an operation returns that makes the quotient x / y -/
def Ret (N D E : Int) : Ending := .returned (.tuple #[.agg #[.int .i64 N, .int .i64 D], .int .i64 E])
theorem res_ok {x y N D : Int} (h : Is x y N D) : resN (true && true) x y = N ∧ resD (true && true) x y = D ∧ resE (true && true) x y = 0 := by
  simp [resN, resD, resE, h.1, h.2.1, h.2.2]
theorem opv_Add {n d m k N D : Int} (h1 : okB n d = true) (h2 : okB m k = true) (h : Is (n * k + m * d) (d * k) N D) (w : World) :
    Calls Try.prog 25 #[.agg #[.int .i64 n, .int .i64 d], .agg #[.int .i64 m, .int .i64 k]] w fun e w' => e = .returned (.tuple #[.agg #[.int .i64 N, .int .i64 D], .int .i64 0]) ∧ Below w.heap.size w w' := by
  have := op_Add n d m k w (I64_of_ok h1).1 (I64_of_ok h1).2 (I64_of_ok h2).1 (I64_of_ok h2).2
  rw [h1, h2, (res_ok h).1, (res_ok h).2.1, (res_ok h).2.2] at this; exact this
theorem opv_Sub {n d m k N D : Int} (h1 : okB n d = true) (h2 : okB m k = true) (h : Is (n * k - m * d) (d * k) N D) (w : World) :
    Calls Try.prog 28 #[.agg #[.int .i64 n, .int .i64 d], .agg #[.int .i64 m, .int .i64 k]] w fun e w' => e = .returned (.tuple #[.agg #[.int .i64 N, .int .i64 D], .int .i64 0]) ∧ Below w.heap.size w w' := by
  have := op_Sub n d m k w (I64_of_ok h1).1 (I64_of_ok h1).2 (I64_of_ok h2).1 (I64_of_ok h2).2
  rw [h1, h2, (res_ok h).1, (res_ok h).2.1, (res_ok h).2.2] at this; exact this
theorem opv_Mul {n d m k N D : Int} (h1 : okB n d = true) (h2 : okB m k = true) (h : Is (n * m) (d * k) N D) (w : World) :
    Calls Try.prog 26 #[.agg #[.int .i64 n, .int .i64 d], .agg #[.int .i64 m, .int .i64 k]] w fun e w' => e = .returned (.tuple #[.agg #[.int .i64 N, .int .i64 D], .int .i64 0]) ∧ Below w.heap.size w w' := by
  have := op_Mul n d m k w (I64_of_ok h1).1 (I64_of_ok h1).2 (I64_of_ok h2).1 (I64_of_ok h2).2
  rw [h1, h2, (res_ok h).1, (res_ok h).2.1, (res_ok h).2.2] at this; exact this
theorem opv_Div {n d m k N D : Int} (h1 : okB n d = true) (h2 : okB m k = true) (h : Is (n * k) (d * m) N D) (w : World) :
    Calls Try.prog 31 #[.agg #[.int .i64 n, .int .i64 d], .agg #[.int .i64 m, .int .i64 k]] w fun e w' => e = .returned (.tuple #[.agg #[.int .i64 N, .int .i64 D], .int .i64 0]) ∧ Below w.heap.size w w' := by
  have := op_Div n d m k w (I64_of_ok h1).1 (I64_of_ok h1).2 (I64_of_ok h2).1 (I64_of_ok h2).2
  rw [h1, h2, (res_ok h).1, (res_ok h).2.1, (res_ok h).2.2] at this; exact this
theorem opv_Div0 {n d m k : Int} (h1 : okB n d = true) (h2 : okB m k = true) (hm : m = 0) (w : World) :
    Calls Try.prog 31 #[.agg #[.int .i64 n, .int .i64 d], .agg #[.int .i64 m, .int .i64 k]] w fun e w' => e = .returned (.tuple #[.agg #[.int .i64 0, .int .i64 0], .int .i64 120]) ∧ Below w.heap.size w w' := by
  have := op_Div n d m k w (I64_of_ok h1).1 (I64_of_ok h1).2 (I64_of_ok h2).1 (I64_of_ok h2).2
  have h : resN (true && true) (n * k) (d * m) = 0 ∧ resD (true && true) (n * k) (d * m) = 0 ∧ resE (true && true) (n * k) (d * m) = 120 := by
    simp [resN, resD, resE, mkN, mkD, mkE, hm]
  rw [h1, h2, h.1, h.2.1, h.2.2] at this; exact this
/-- the sum where it may be beyond the limits -/
theorem opv_AddM {n d m k : Int} (h1 : okB n d = true) (h2 : okB m k = true) (w : World) :
    Calls Try.prog 25 #[.agg #[.int .i64 n, .int .i64 d], .agg #[.int .i64 m, .int .i64 k]] w fun e w' => e = .returned (.tuple #[.agg #[.int .i64 (mkN (n * k + m * d) (d * k)), .int .i64 (mkD (n * k + m * d) (d * k))], .int .i64 (mkE (n * k + m * d) (d * k))]) ∧ Below w.heap.size w w' := by
  have := op_Add n d m k w (I64_of_ok h1).1 (I64_of_ok h1).2 (I64_of_ok h2).1 (I64_of_ok h2).2
  rw [h1, h2] at this; exact this
theorem cmpv {n d m k S : Int} (h1 : okB n d = true) (h2 : okB m k = true) (h : cmpI (n * k) (m * d) = S) (w : World) :
    Calls Try.prog 22 #[.agg #[.int .i64 n, .int .i64 d], .agg #[.int .i64 m, .int .i64 k]] w fun e w' => e = .returned (.tuple #[.int .i64 S, .int .i64 0]) ∧ Below w.heap.size w w' := by
  have := cmp_any n d m k w (I64_of_ok h1).1 (I64_of_ok h1).2 (I64_of_ok h2).1 (I64_of_ok h2).2
  have hv := cmpV_true (n := n) (d := d) (m := m) (k := k) (by rw [h1, h2]; rfl)
  rw [hv.1, hv.2, h] at this; exact this
/-- a small valid ratio, as few makes it -/
theorem few_val (n d : Int) : ∃ N D, mkN (fwX n) (fwY d) = N ∧ mkD (fwX n) (fwY d) = D ∧ Val N D 511 1024 ∧ N * fwY d = fwX n * D := by
  obtain ⟨h1, h2⟩ := fwX_bd n; obtain ⟨h3, h4⟩ := fwY_bd d
  obtain ⟨N, D, a, b, c⟩ := is_mk (x := fwX n) (y := fwY d) (A := 511) (B := 1024) (by omega) (by omega) (by omega) (by omega) (by omega)
  exact ⟨N, D, a.1, a.2.1, b, c⟩
theorem fewv {n d N D : Int} (hN : mkN (fwX n) (fwY d) = N) (hD : mkD (fwX n) (fwY d) = D) (h1 : -32768 ≤ n) (h2 : n ≤ 32767) (h3 : 0 ≤ d) (h4 : d ≤ 65535) (w : World) :
    Calls Try.prog 24 #[.int .i16 n, .int .u16 d] w fun e w' => e = .returned (.tuple #[.agg #[.int .i64 N, .int .i64 D], .bool true]) ∧ Below w.heap.size w w' := by
  have := few_any n d w h1 h2 h3 h4
  rw [hN, hD] at this; exact this
end R12
end Go.Proofs
