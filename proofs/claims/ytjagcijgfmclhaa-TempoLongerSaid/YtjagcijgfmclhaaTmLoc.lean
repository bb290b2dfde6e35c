/- Clocks: what lies at a tick. Plain Lean. -/
import Derived.Test.YtjagcijgfmclhaaTmPart
set_option linter.unusedSectionVars false
set_option linter.unusedVariables false
set_option linter.unusedSimpArgs false
namespace Go.Kin.Tm

section
variable {tk pa : Int → Int}
/-- the answer at a tick of a bar or of the pause behind it -/
def ans (tk pa : Int → Int) (j : Nat) (t : Int) : Int × Int × Bool := if t < Bt tk pa j + tk j then (j, t - Bt tk pa j, true) else (j, t - (Bt tk pa j + tk j), false)
/-- bars have ticks, and no pause is negative -/
def Fine (tk pa : Int → Int) (n : Nat) : Prop := ∀ k : Nat, k < n → 1 ≤ tk k ∧ 0 ≤ pa k
theorem Bt_succ (k : Nat) : Bt tk pa (k + 1) = Bt tk pa k + tk k + pa k := rfl
theorem Bt_mono {n : Nat} (h : Fine tk pa n) : ∀ {k m : Nat}, k ≤ m → m ≤ n → Bt tk pa k ≤ Bt tk pa m := by
  intro k m hkm hm
  induction hkm with
  | refl => exact Int.le_refl _
  | step hkm ih =>
    rename_i m
    have h1 := h m (by omega)
    have h2 := ih (by omega)
    rw [Bt_succ]; omega
theorem Bt_lt {n : Nat} (h : Fine tk pa n) {k m : Nat} (hkm : k < m) (hm : m ≤ n) : Bt tk pa k < Bt tk pa m := by
  have h1 := h k (by omega)
  have h2 := Bt_mono h (show k + 1 ≤ m by omega) hm
  rw [Bt_succ] at h2; omega
theorem Bt_nonneg {n : Nat} (h : Fine tk pa n) {k : Nat} (hk : k ≤ n) : 0 ≤ Bt tk pa k := Bt_mono h (Nat.zero_le k) hk
theorem loc2_in {n : Nat} (h : Fine tk pa n) {t : Int} : ∀ (f k j : Nat), k + f ≤ n → k ≤ j → j < k + f → Bt tk pa j ≤ t → t < Bt tk pa (j + 1) → loc2 tk pa f k (Bt tk pa k) t = some (ans tk pa j t)
  | 0, k, j, _, h1, h2, _, _ => by omega
  | f + 1, k, j, hn, h1, h2, h3, h4 => by
    unfold loc2
    by_cases hk : j = k
    · subst hk
      unfold ans
      rw [Bt_succ] at h4
      by_cases hc : t < Bt tk pa j + tk j
      · rw [if_pos hc, if_pos hc]
      · rw [if_neg hc, if_neg hc, if_pos h4]
    · have hm := Bt_mono h (show k + 1 ≤ j by omega) (by omega)
      have hf := h k (by omega)
      rw [Bt_succ] at hm
      rw [if_neg (by omega), if_neg (by omega)]
      have := loc2_in h (t := t) f (k + 1) j (by omega) (by omega) (by omega) h3 h4
      rw [Bt_succ] at this
      exact_mod_cast this
theorem loc2_out {n : Nat} (h : Fine tk pa n) {t : Int} : ∀ (f k : Nat), k + f ≤ n → Bt tk pa (k + f) ≤ t → loc2 tk pa f k (Bt tk pa k) t = none
  | 0, _, _, _ => rfl
  | f + 1, k, hn, h1 => by
    unfold loc2
    have hm := Bt_mono h (show k + 1 ≤ k + (f + 1) by omega) hn
    have hf := h k (by omega)
    rw [Bt_succ] at hm
    rw [if_neg (by omega), if_neg (by omega)]
    have := loc2_out h (t := t) f (k + 1) (by omega) (by rw [show k + 1 + f = k + (f + 1) by omega]; exact h1)
    rw [Bt_succ] at this
    exact_mod_cast this
theorem find_bar {t : Int} (h0 : 0 ≤ t) : ∀ {n : Nat}, t < Bt tk pa n → ∃ j, j < n ∧ Bt tk pa j ≤ t ∧ t < Bt tk pa (j + 1)
  | 0, h => by have : t < 0 := h; omega
  | n + 1, h => by
    by_cases hc : Bt tk pa n ≤ t
    · exact ⟨n, by omega, hc, h⟩
    · obtain ⟨j, h1, h2⟩ := find_bar h0 (n := n) (by omega)
      exact ⟨j, by omega, h2⟩
theorem bar_uniq {n : Nat} (h : Fine tk pa n) {t : Int} {i j : Nat} (hi : i < n) (hj : j < n) (h1 : Bt tk pa i ≤ t) (h2 : t < Bt tk pa (i + 1)) (h3 : Bt tk pa j ≤ t) (h4 : t < Bt tk pa (j + 1)) : i = j := by
  rcases Nat.lt_trichotomy i j with hh | hh | hh
  · have := Bt_mono h (show i + 1 ≤ j by omega) (by omega); omega
  · exact hh
  · have := Bt_mono h (show j + 1 ≤ i by omega) (by omega); omega
/-- what Locate answers -/
def locA (tk pa : Int → Int) (n : Nat) (t : Int) : Option (Int × Int × Bool) := if 0 ≤ t then loc2 tk pa n 0 0 t else none
theorem locA_in {n : Nat} (h : Fine tk pa n) {t : Int} {j : Nat} (h0 : 0 ≤ t) (hj : j < n) (h1 : Bt tk pa j ≤ t) (h2 : t < Bt tk pa (j + 1)) : locA tk pa n t = some (ans tk pa j t) := by
  unfold locA
  rw [if_pos h0]
  exact_mod_cast loc2_in h n 0 j (by omega) (by omega) (by omega) h1 h2
theorem locA_out {n : Nat} (h : Fine tk pa n) {t : Int} (h1 : t < 0 ∨ Bt tk pa n ≤ t) : locA tk pa n t = none := by
  unfold locA
  by_cases h0 : 0 ≤ t
  · rw [if_pos h0]
    have := loc2_out h (t := t) n 0 (by omega) (by rw [Nat.zero_add]; omega)
    exact_mod_cast this
  · rw [if_neg h0]
theorem locA_some {n : Nat} (h : Fine tk pa n) {t : Int} {r : Int × Int × Bool} (hr : locA tk pa n t = some r) : ∃ j, j < n ∧ 0 ≤ t ∧ Bt tk pa j ≤ t ∧ t < Bt tk pa (j + 1) ∧ r = ans tk pa j t := by
  by_cases h0 : 0 ≤ t
  · by_cases h1 : t < Bt tk pa n
    · obtain ⟨j, a1, a2, a3⟩ := find_bar h0 h1
      rw [locA_in h h0 a1 a2 a3] at hr
      cases hr
      exact ⟨j, a1, h0, a2, a3, rfl⟩
    · rw [locA_out h (.inr (by omega))] at hr; cases hr
  · rw [locA_out h (.inl (by omega))] at hr; cases hr
end
end Go.Kin.Tm
