/- Plain arithmetic: the numbers of Euclid's algorithm and what comes last. No program. -/
import Derived.WalkKit
set_option linter.unusedSectionVars false
set_option linter.unusedVariables false
set_option linter.unusedSimpArgs false
namespace Go.Proofs
namespace R12
/-- what `remainders` yields -/
def rems : Nat → Nat → Nat → List Nat
  | 0, _, _ => []
  | f + 1, a, b => if a = 0 then [] else a :: (if a % max b 1 = 0 then [b] else rems f b (a % max b 1))
theorem rems_stable : ∀ (f a b : Nat), b < f → ∀ g, b < g → rems f a b = rems g a b
  | 0, _, _, h, _, _ => by omega
  | f + 1, a, b, h, g, hg => by
    cases g with
    | zero => omega
    | succ g =>
      simp only [rems]
      split
      · rfl
      · split
        · rfl
        · have hlt : a % max b 1 < b ∨ b = 0 := by
            by_cases hb : b = 0
            · right; exact hb
            · left; have : max b 1 = b := by omega
              rw [this]; exact Nat.mod_lt _ (by omega)
          rcases hlt with hlt | hlt
          · rw [rems_stable f b _ (by omega) g (by omega)]
          · subst hlt; rename_i h1 h2; exact absurd (by simp [Nat.mod_one]) h2
def remL (a b : Nat) : List Nat := rems (b + 1) a b
theorem remL_zero (b : Nat) : remL 0 b = [] := by simp [remL, rems]
theorem remL_last (a b : Nat) (ha : a ≠ 0) (h : a % max b 1 = 0) : remL a b = [a, b] := by simp [remL, rems, ha, h]
theorem remL_next (a b : Nat) (ha : a ≠ 0) (h : a % max b 1 ≠ 0) : remL a b = a :: remL b (a % max b 1) := by
  have hb : b ≠ 0 := by intro e; subst e; exact h (by simp [Nat.mod_one])
  have hm : max b 1 = b := by omega
  have hlt : a % b < b := Nat.mod_lt _ (by omega)
  rw [hm] at h ⊢
  show rems (b + 1) a b = _
  simp only [rems, hm, if_neg ha, if_neg h]
  congr 1
  exact rems_stable _ _ _ hlt _ (Nat.lt_succ_self _)
/-- the last one that comes, `d` if none -/
theorem remL_gcd (b : Nat) : ∀ (a : Nat), b ≠ 0 → (remL a b).getLastD b = Nat.gcd a b := by
  induction b using Nat.strongRecOn with
  | _ b ih =>
    intro a hb
    have hm : max b 1 = b := by omega
    by_cases ha : a = 0
    · subst ha; simp [remL_zero]
    · by_cases h : a % max b 1 = 0
      · rw [remL_last a b ha h]; rw [hm] at h
        simp only [List.getLastD_cons, List.getLastD_nil]
        exact (Nat.gcd_eq_right (Nat.dvd_of_mod_eq_zero h)).symm
      · rw [remL_next a b ha h]
        rw [hm] at h ⊢
        have h1 := ih (a % b) (Nat.mod_lt _ (by omega)) b h
        have hne : remL b (a % b) ≠ [] := by
          by_cases h2 : b % max (a % b) 1 = 0
          · rw [remL_last b _ hb h2]; simp
          · rw [remL_next b _ hb h2]; simp
        rw [List.getLastD_cons, List.getLastD_eq_getLast?]
        rw [List.getLastD_eq_getLast?] at h1
        rw [List.getLast?_eq_some_getLast hne] at h1 ⊢
        simp only [Option.getD_some] at h1 ⊢
        rw [h1, Nat.gcd_comm, ← Nat.gcd_rec, Nat.gcd_comm]
end R12
end Go.Proofs
