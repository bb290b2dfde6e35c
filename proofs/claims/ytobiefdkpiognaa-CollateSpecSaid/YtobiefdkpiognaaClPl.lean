/- Alignments: step by step. Plain Lean. -/
import Derived.Test.YtobiefdkpiognaaClPair
set_option linter.unusedSectionVars false
set_option linter.unusedVariables false
set_option linter.unusedSimpArgs false
namespace Go.Kin.Cl
theorem best_left {x : Int} {a : List Int} : best (x :: a) [] = .left :: best a [] := by rw [best_nil_right, best_nil_right]; rfl
theorem best_right {y : Int} {b : List Int} : best [] (y :: b) = .right :: best [] b := by rw [best_nil_left, best_nil_left]; rfl
theorem ac_left {x : Int} {a : List Int} : ac (x :: a) [] = 2 + ac a [] := by rw [ac_nil_right, ac_nil_right, List.length_cons]; omega
theorem ac_right {y : Int} {b : List Int} : ac [] (y :: b) = 2 + ac [] b := by rw [ac_nil_left, ac_nil_left, List.length_cons]; omega
/-- the pairs that are left from two places on -/
def prf (a b : List Int) (i k : Nat) : List (Int × Int) := prs (best (a.drop i) (b.drop k)) i k
def lf (a b : List Int) (i k : Nat) : Int := ac (a.drop i) (b.drop k)
variable {a b : List Int} {i k : Nat} {x y : Int}
theorem drop_get {l : List Int} {i : Nat} {x : Int} (h : l[i]? = some x) : l.drop i = x :: l.drop (i + 1) := by
  obtain ⟨h1, h2⟩ := List.getElem?_eq_some_iff.1 h
  rw [List.drop_eq_getElem_cons h1, h2]
theorem prf_both (hx : a[i]? = some x) (hy : b[k]? = some y) (h : lf a b i k = bes x y + lf a b (i + 1) (k + 1)) : prf a b i k = ((i : Int) + 1, (k : Int) + 1) :: prf a b (i + 1) (k + 1) := by
  unfold lf at h
  unfold prf
  rw [drop_get hx, drop_get hy] at h ⊢
  rw [best_cons, if_pos h]; rfl
theorem prf_left (hx : a[i]? = some x) (hy : b[k]? = some y) (h : lf a b i k ≠ bes x y + lf a b (i + 1) (k + 1)) (h2 : lf a b i k = 2 + lf a b (i + 1) k) : prf a b i k = ((i : Int) + 1, 0) :: prf a b (i + 1) k := by
  unfold lf at h h2
  unfold prf
  rw [drop_get hx, drop_get hy] at h h2 ⊢
  rw [best_cons, if_neg h, if_pos h2]; rfl
theorem prf_right (hx : a[i]? = some x) (hy : b[k]? = some y) (h : lf a b i k ≠ bes x y + lf a b (i + 1) (k + 1)) (h2 : lf a b i k ≠ 2 + lf a b (i + 1) k) : prf a b i k = (0, (k : Int) + 1) :: prf a b i (k + 1) := by
  unfold lf at h h2
  unfold prf
  rw [drop_get hx, drop_get hy] at h h2 ⊢
  rw [best_cons, if_neg h, if_neg h2]; rfl
theorem prf_lefts (hx : a[i]? = some x) (hk : k = b.length) : prf a b i k = ((i : Int) + 1, 0) :: prf a b (i + 1) k ∧ lf a b i k = 2 + lf a b (i + 1) k := by
  unfold prf lf
  rw [drop_get hx, hk, List.drop_length, best_left, ac_left]; exact ⟨rfl, rfl⟩
theorem prf_rights (hi : i = a.length) (hy : b[k]? = some y) : prf a b i k = (0, (k : Int) + 1) :: prf a b i (k + 1) := by
  unfold prf
  rw [drop_get hy, hi, List.drop_length, best_right]; rfl
theorem prf_end (hi : i = a.length) (hk : k = b.length) : prf a b i k = [] := by
  unfold prf
  rw [hi, hk, List.drop_length, List.drop_length, best_nil_left]; rfl
theorem lf_bd (a b : List Int) (i k : Nat) (ha : a.length ≤ 64) (hb : b.length ≤ 64) : 0 ≤ lf a b i k ∧ lf a b i k ≤ 256 := by
  have := ac_bd (a.drop i) (b.drop k)
  unfold lf
  rw [List.length_drop, List.length_drop] at this
  omega
theorem lf_end (hi : i ≤ a.length) (hk : k ≤ b.length) (h : i = a.length ∨ k = b.length) : lf a b i k = 2 * ((a.length : Int) - i + b.length - k) := by
  unfold lf
  rcases h with h | h
  · rw [h, List.drop_length, ac_nil_left, List.length_drop]; omega
  · rw [h, List.drop_length, ac_nil_right, List.length_drop]; omega
theorem lf_step (hx : a[i]? = some x) (hy : b[k]? = some y) : lf a b i k = min (min (bes x y + lf a b (i + 1) (k + 1)) (2 + lf a b (i + 1) k)) (2 + lf a b i (k + 1)) := by
  unfold lf
  rw [drop_get hx, drop_get hy, ac_cons]
end Go.Kin.Cl
