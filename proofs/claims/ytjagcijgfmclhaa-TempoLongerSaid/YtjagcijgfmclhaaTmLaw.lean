/- Clocks: the laws of ticks. Plain Lean. -/
import Derived.Test.YtjagcijgfmclhaaTmLoc
set_option linter.unusedSectionVars false
set_option linter.unusedVariables false
set_option linter.unusedSimpArgs false
namespace Go.Kin.Tm
section
variable {tk pa : Int → Int}
/-- how long what lies at a tick lasts -/
def long (tk pa : Int → Int) (j : Nat) (t : Int) : Int := if t < Bt tk pa j + tk j then tk j else pa j
theorem ans_bar (j : Nat) (t : Int) : (ans tk pa j t).1 = j := by unfold ans; split <;> rfl
theorem ans_in {j : Nat} {t : Int} (h1 : Bt tk pa j ≤ t) (h2 : t < Bt tk pa (j + 1)) : 0 ≤ (ans tk pa j t).2.1 ∧ (ans tk pa j t).2.1 < long tk pa j t := by
  unfold ans long
  rw [Bt_succ] at h2
  split
  · simp only; omega
  · simp only; omega
/-- the last tick -/
theorem last_tick {n : Nat} (h : Fine tk pa n) (hl : ∀ k : Nat, k + 1 = n → pa k = 0) {t : Int} {j : Nat} (hj : j < n) (h1 : Bt tk pa j ≤ t) (h2 : t < Bt tk pa (j + 1)) (he : t + 1 = Bt tk pa n) :
    j + 1 = n ∧ (ans tk pa j t).2.2 = true ∧ (ans tk pa j t).2.1 = long tk pa j t - 1 := by
  have hjn : j + 1 = n := by
    rcases Nat.lt_or_ge (j + 1) n with hh | hh
    · have := Bt_lt h hh (Nat.le_refl n); omega
    · omega
  have h0 := hl j hjn
  have hB := Bt_succ (tk := tk) (pa := pa) j
  rw [h0] at hB
  rw [← hjn] at he
  refine ⟨hjn, ?_, ?_⟩
  · unfold ans; rw [if_pos (by omega)]
  · unfold ans long; rw [if_pos (by omega), if_pos (by omega)]; simp only; omega
/-- the next tick -/
theorem next_tick {n : Nat} (h : Fine tk pa n) {t : Int} {j : Nat} (h0 : 0 ≤ t) (hj : j < n) (h1 : Bt tk pa j ≤ t) (h2 : t < Bt tk pa (j + 1)) (he : t + 1 ≠ Bt tk pa n) :
    locA tk pa n (t + 1) = some (if (ans tk pa j t).2.1 + 1 < long tk pa j t then ((j : Int), (ans tk pa j t).2.1 + 1, (ans tk pa j t).2.2) else if (ans tk pa j t).2.2 = true ∧ 0 < pa j then ((j : Int), 0, false) else ((j : Int) + 1, 0, true)) := by
  have hB := Bt_succ (tk := tk) (pa := pa) j
  have hf := h j hj
  by_cases hc : t + 1 < Bt tk pa (j + 1)
  · rw [locA_in h (by omega) hj (by omega) hc]
    congr 1
    by_cases hp : t < Bt tk pa j + tk j
    · have e1 : ans tk pa j t = ((j : Int), t - Bt tk pa j, true) := by unfold ans; rw [if_pos hp]
      have e2 : long tk pa j t = tk j := by unfold long; rw [if_pos hp]
      rw [e1, e2]
      simp only
      by_cases hq : t + 1 < Bt tk pa j + tk j
      · rw [if_pos (by omega)]
        unfold ans; rw [if_pos hq]
        congr 2; omega
      · rw [if_neg (by omega), if_pos ⟨trivial, by omega⟩]
        unfold ans; rw [if_neg hq]
        congr 2; omega
    · have e1 : ans tk pa j t = ((j : Int), t - (Bt tk pa j + tk j), false) := by unfold ans; rw [if_neg hp]
      have e2 : long tk pa j t = pa j := by unfold long; rw [if_neg hp]
      rw [e1, e2]
      simp only
      rw [if_pos (by omega)]
      unfold ans; rw [if_neg (by omega)]
      congr 2; omega
  · have ht : t + 1 = Bt tk pa (j + 1) := by omega
    have hj2 : j + 1 < n := by
      rcases Nat.lt_or_ge (j + 1) n with hh | hh
      · exact hh
      · exfalso
        have : j + 1 = n := by omega
        rw [this] at ht; exact he ht
    have hf2 := h (j + 1) hj2
    have hB2 := Bt_succ (tk := tk) (pa := pa) (j + 1)
    rw [locA_in h (by omega) hj2 (by omega) (by omega)]
    congr 1
    have e3 : ans tk pa (j + 1) (t + 1) = ((j : Int) + 1, 0, true) := by
      unfold ans; rw [if_pos (by omega), ht, Int.sub_self]; rfl
    rw [e3]
    by_cases hp : t < Bt tk pa j + tk j
    · have e1 : ans tk pa j t = ((j : Int), t - Bt tk pa j, true) := by unfold ans; rw [if_pos hp]
      have e2 : long tk pa j t = tk j := by unfold long; rw [if_pos hp]
      rw [e1, e2]
      simp only
      rw [if_neg (by omega), if_neg (by rintro ⟨_, h⟩; omega)]
    · have e1 : ans tk pa j t = ((j : Int), t - (Bt tk pa j + tk j), false) := by unfold ans; rw [if_neg hp]
      have e2 : long tk pa j t = pa j := by unfold long; rw [if_neg hp]
      rw [e1, e2]
      simp only
      rw [if_neg (by omega), if_neg (by rintro ⟨h, _⟩; cases h)]
/-- a bar's beginning -/
theorem at_begin {n : Nat} (h : Fine tk pa n) {j : Nat} (hj : j < n) : locA tk pa n (Bt tk pa j) = some ((j : Int), 0, true) := by
  have hf := h j hj
  have h0 := Bt_nonneg h (show j ≤ n by omega)
  rw [locA_in h h0 hj (Int.le_refl _) (by rw [Bt_succ]; omega)]
  congr 1
  unfold ans; rw [if_pos (by omega), Int.sub_self]
/-- longer pauses -/
theorem Bt_le {pa' : Int → Int} {n : Nat} (h : ∀ k : Nat, k < n → pa k ≤ pa' k) : ∀ {m : Nat}, m ≤ n → Bt tk pa m ≤ Bt tk pa' m
  | 0, _ => Int.le_refl _
  | m + 1, hm => by
    have := Bt_le (n := n) h (m := m) (by omega)
    have := h m (by omega)
    rw [Bt_succ, Bt_succ]; omega
theorem Bt_more {pa' : Int → Int} {j0 : Nat} {by' : Int} (h : ∀ k : Nat, pa' k = if k = j0 then pa k + by' else pa k) : ∀ m : Nat, Bt tk pa' m = Bt tk pa m + (if j0 < m then by' else 0)
  | 0 => by rw [if_neg (by omega)]; show (0 : Int) = 0 + 0; rfl
  | m + 1 => by
    rw [Bt_succ, Bt_succ, Bt_more h m, h m]
    by_cases h1 : m = j0
    · subst h1
      rw [if_pos rfl, if_neg (by omega), if_pos (by omega)]; omega
    · rw [if_neg h1]
      by_cases h2 : j0 < m
      · rw [if_pos h2, if_pos (by omega)]; omega
      · rw [if_neg h2, if_neg (by omega)]; omega
theorem moved {pa' : Int → Int} {n j0 : Nat} {by' : Int} (hb : 0 ≤ by') (h : Fine tk pa n) (hp : ∀ k : Nat, pa' k = if k = j0 then pa k + by' else pa k) {t : Int} {j : Nat} (h0 : 0 ≤ t) (hj : j < n) (h1 : Bt tk pa j ≤ t) (h2 : t < Bt tk pa (j + 1)) :
    locA tk pa' n (t + (if j0 < j then by' else 0)) = some (ans tk pa j t) := by
  have h' : Fine tk pa' n := fun k hk => by
    have := h k hk
    rw [hp k]
    split <;> omega
  have e1 := Bt_more (tk := tk) hp j
  have e2 := Bt_more (tk := tk) hp (j + 1)
  have hd : (if j0 < j then by' else 0) ≤ (if j0 < j + 1 then by' else 0) := by
    by_cases hc : j0 < j
    · rw [if_pos hc, if_pos (by omega)]; exact Int.le_refl _
    · rw [if_neg hc]; split <;> omega
  have hd0 : 0 ≤ (if j0 < j then by' else (0 : Int)) := by split <;> omega
  rw [locA_in h' (by omega) hj (by omega) (by omega)]
  congr 1
  unfold ans
  rw [e1]
  by_cases hc : t < Bt tk pa j + tk j
  · rw [if_pos hc, if_pos (by omega)]
    congr 2; omega
  · rw [if_neg hc, if_neg (by omega)]
    congr 2; omega
end
end Go.Kin.Tm
