/- Alignments as lists of pairs of indices. Plain Lean. -/
import Derived.Test.YtobiefdkpiognaaClMath
set_option linter.unusedSectionVars false
set_option linter.unusedVariables false
set_option linter.unusedSimpArgs false
namespace Go.Kin.Cl

/-- the pairs of an alignment, from two places on -/
def prs : List Mv → Nat → Nat → List (Int × Int)
  | [], _, _ => []
  | .both :: m, i, k => ((i : Int) + 1, (k : Int) + 1) :: prs m (i + 1) (k + 1)
  | .left :: m, i, k => ((i : Int) + 1, 0) :: prs m (i + 1) k
  | .right :: m, i, k => (0, (k : Int) + 1) :: prs m i (k + 1)
def rankP (x : Int × Int) : Int := if x.2 = 0 then 1 else if x.1 = 0 then 2 else 0
def firstP : List (Int × Int) → List (Int × Int) → Bool
  | x :: l, y :: l' => if x = y then firstP l l' else decide (rankP x < rankP y)
  | _, _ => false
theorem first_prs : ∀ (m m' : List Mv) (i k : Nat), firstP (prs m i k) (prs m' i k) = firstM m m'
  | [], _, _, _ => by cases ‹List Mv› <;> simp [prs, firstP, firstM]
  | x :: m, [], _, _ => by cases x <;> simp [prs, firstP, firstM]
  | x :: m, y :: m', i, k => by
    cases x <;> cases y <;> simp only [prs, firstP, firstM]
    · rw [if_pos trivial, if_pos trivial]; exact first_prs m m' _ _
    · rw [if_neg (by simp; omega), if_neg (by simp)]; unfold rankP rank; simp; omega
    · rw [if_neg (by simp; omega), if_neg (by simp)]; unfold rankP rank; simp; omega
    · rw [if_neg (by simp; omega), if_neg (by simp)]; unfold rankP rank; simp; omega
    · rw [if_pos trivial, if_pos trivial]; exact first_prs m m' _ _
    · rw [if_neg (by simp; omega), if_neg (by simp)]; unfold rankP rank; simp; omega
    · rw [if_neg (by simp; omega), if_neg (by simp)]; unfold rankP rank; simp; omega
    · rw [if_neg (by simp; omega), if_neg (by simp)]; unfold rankP rank; simp; omega
    · rw [if_pos trivial, if_pos trivial]; exact first_prs m m' _ _

/-! ## What pairs cost -/
def badP (a b : List Int) (x : Int × Int) (i k : Nat) : Prop := x.1 < 0 ∨ x.2 < 0 ∨ (0 < x.1 ∧ x.1 ≠ i + 1) ∨ (0 < x.2 ∧ x.2 ≠ k + 1) ∨ (a.length : Int) < x.1 ∨ (b.length : Int) < x.2
instance (a b : List Int) (x : Int × Int) (i k : Nat) : Decidable (badP a b x i k) := by unfold badP; infer_instance
def wgh (a b : List Int) : List (Int × Int) → Nat → Nat → Int → Option Int
  | [], i, k, c => if i = a.length ∧ k = b.length then some c else none
  | x :: l, i, k, c => if badP a b x i k then none else if 0 < x.1 ∧ 0 < x.2 then wgh a b l (i + 1) (k + 1) (c + bes (a.getD i 0) (b.getD k 0)) else if x.1 = 0 ∧ x.2 = 0 then none else if 0 < x.1 then wgh a b l (i + 1) k (c + 2) else wgh a b l i (k + 1) (c + 2)
theorem drop_at {l : List Int} {i : Nat} (h : i < l.length) : l.drop i = l.getD i 0 :: l.drop (i + 1) := by
  rw [List.drop_eq_getElem_cons h, List.getD_eq_getElem?_getD, List.getElem?_eq_getElem h]; rfl
theorem wgh_some {a b : List Int} : ∀ {l : List (Int × Int)} {i k : Nat} {c r : Int}, i ≤ a.length → k ≤ b.length → wgh a b l i k c = some r → ∃ m c', l = prs m i k ∧ Al (a.drop i) (b.drop k) m c' ∧ r = c + c'
  | [], i, k, c, r, hi, hk, h => by
    unfold wgh at h
    split at h
    · rename_i hh
      cases h
      rw [hh.1, hh.2, List.drop_length, List.drop_length]
      exact ⟨[], 0, rfl, .nil, by omega⟩
    · cases h
  | x :: l, i, k, c, r, hi, hk, h => by
    obtain ⟨p, q⟩ := x
    unfold wgh at h
    split at h
    · cases h
    · rename_i hb
      unfold badP at hb
      simp only at hb h
      split at h
      · rename_i h2
        obtain ⟨m, c', e1, e2, e3⟩ := wgh_some (by omega) (by omega) h
        refine ⟨.both :: m, bes (a.getD i 0) (b.getD k 0) + c', ?_, ?_, ?_⟩
        · rw [e1]; simp only [prs]; congr 2 <;> omega
        · rw [drop_at (l := a) (i := i) (by omega), drop_at (l := b) (i := k) (by omega)]; exact .both e2
        · omega
      · rename_i h2
        split at h
        · cases h
        · rename_i h3
          split at h
          · rename_i h4
            obtain ⟨m, c', e1, e2, e3⟩ := wgh_some (by omega) (by omega) h
            refine ⟨.left :: m, 2 + c', ?_, ?_, ?_⟩
            · rw [e1]; simp only [prs]; congr 2 <;> omega
            · rw [drop_at (l := a) (i := i) (by omega)]; exact .left e2
            · omega
          · rename_i h4
            obtain ⟨m, c', e1, e2, e3⟩ := wgh_some (by omega) (by omega) h
            refine ⟨.right :: m, 2 + c', ?_, ?_, ?_⟩
            · rw [e1]; simp only [prs]; congr 2 <;> omega
            · rw [drop_at (l := b) (i := k) (by omega)]; exact .right e2
            · omega
theorem drop_uncons {l : List Int} {i : Nat} {x : Int} {r : List Int} (h : x :: r = l.drop i) : i < l.length ∧ x = l.getD i 0 ∧ r = l.drop (i + 1) := by
  have hi : i < l.length := by
    rcases Nat.lt_or_ge i l.length with h' | h'
    · exact h'
    · rw [List.drop_eq_nil_of_le h'] at h; cases h
  rw [drop_at hi] at h
  cases h
  exact ⟨hi, rfl, rfl⟩
theorem wgh_al {a b : List Int} : ∀ {a' b' : List Int} {m : List Mv} {c' : Int}, Al a' b' m c' → ∀ {i k : Nat} {c : Int}, a' = a.drop i → b' = b.drop k → i ≤ a.length → k ≤ b.length → wgh a b (prs m i k) i k c = some (c + c') := by
  intro a' b' m c' h
  induction h with
  | nil =>
    intro i k c h1 h2 hi hk
    have g1 := congrArg List.length h1
    have g2 := congrArg List.length h2
    simp only [List.length_drop, List.length_nil] at g1 g2
    simp only [prs, wgh]
    rw [if_pos ⟨by omega, by omega⟩, Int.add_zero]
  | @both x y a' b' m c' h ih =>
    intro i k c h1 h2 hi hk
    obtain ⟨p1, p2, p3⟩ := drop_uncons h1
    obtain ⟨q1, q2, q3⟩ := drop_uncons h2
    simp only [prs, wgh]
    rw [if_neg (by unfold badP; simp only; omega), if_pos (by omega), ih p3 q3 (by omega) (by omega), p2, q2]
    congr 1; omega
  | @left x a' b' m c' h ih =>
    intro i k c h1 h2 hi hk
    obtain ⟨p1, p2, p3⟩ := drop_uncons h1
    simp only [prs, wgh]
    rw [if_neg (by unfold badP; simp only; omega), if_neg (by omega), if_neg (by omega), if_pos (by omega), ih p3 h2 (by omega) (by omega)]
    congr 1; omega
  | @right y a' b' m c' h ih =>
    intro i k c h1 h2 hi hk
    obtain ⟨q1, q2, q3⟩ := drop_uncons h2
    simp only [prs, wgh]
    rw [if_neg (by unfold badP; simp only; omega), if_neg (by omega), if_neg (by omega), if_neg (by omega), ih h1 q3 (by omega) (by omega)]
    congr 1; omega
/-- what Pair hands back -/
theorem wgh_best (a b : List Int) : wgh a b (prs (best a b) 0 0) 0 0 0 = some (ac a b) := by
  rw [wgh_al (best_al a b) rfl rfl (Nat.zero_le _) (Nat.zero_le _), Int.zero_add]
/-- another alignment costs more, or does not come first -/
theorem wgh_other {a b : List Int} {o : List (Int × Int)} {r : Int} (h : wgh a b o 0 0 0 = some r) : ac a b < r ∨ (r = ac a b ∧ firstP o (prs (best a b) 0 0) = false) := by
  obtain ⟨m, c', e1, e2, e3⟩ := wgh_some (Nat.zero_le _) (Nat.zero_le _) h
  simp only [List.drop_zero] at e2
  have hle := e2.le
  by_cases hc : c' = ac a b
  · right
    refine ⟨by omega, ?_⟩
    rw [e1, first_prs]
    exact least_first e2 hc
  · left; omega
end Go.Kin.Cl
