/- magnitude and Make walked. -/
import Derived.Test.YtjagcijgfmclhaaRtDiv
import Derived.Test.YtjagcijgfmclhaaRtFn
set_option linter.unusedSectionVars false
set_option linter.unusedVariables false
set_option linter.unusedSimpArgs false
namespace Go.Proofs
open Go.RowKit Go.Shelf Go.Kin
namespace R12
theorem u64w (x g : Nat) (hx : x ≤ 9223372036854775808) (_hg : 0 < g) : IntKind.u64.wrap ((x : Int) / (g : Int)) = ((x / g : Nat) : Int) := by
  have h1 : ((x : Int) / (g : Int)) = ((x / g : Nat) : Int) := by simp
  have h2 : x / g ≤ x := Nat.div_le_self _ _
  rw [h1]; generalize x / g = q at *; simp only [IntKind.wrap, IntKind.bits, IntKind.signed]; simp; omega
theorem ret_val {a b : Value} (h : a = b) : Ending.returned a = Ending.returned b := by rw [h]
def i64 (n : Int) : Prop := -9223372036854775808 ≤ n ∧ n ≤ 9223372036854775807
set_option maxHeartbeats 400000 in
theorem magnitude_any (n : Int) (w : World) (h1 : -9223372036854775808 ≤ n) (h2 : n ≤ 9223372036854775807) :
    Calls Try.prog 53 #[.int .i64 n] w fun e w' => e = .returned (.int .u64 n.natAbs) ∧ w' = w := by
  by_cases hn : n < 0
  · have e1 : IntKind.u64.wrap (-IntKind.u64.wrap n) = (n.natAbs : Int) := by
      simp only [IntKind.wrap, IntKind.bits, IntKind.signed]; simp; omega
    have E1 := Lib.hid e1; clear e1
    go_enter Try.func53, Try.ntmps53
    go_wp2
    go_ret
    exact ⟨ret_val (by show Value.int _ _ = _; rw [E1.out]), rfl⟩
  · go_enter Try.func53, Try.ntmps53
    go_wp2
    go_ret
    exact ⟨ret_val (by show Value.int _ _ = _; congr 1; omega), rfl⟩

end R12
end Go.Proofs
