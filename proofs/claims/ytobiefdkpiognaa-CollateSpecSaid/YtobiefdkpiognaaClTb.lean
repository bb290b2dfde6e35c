/- Collating: the whole table. Plain Lean. -/
import Derived.Test.YtobiefdkpiognaaClTab
set_option linter.unusedSectionVars false
set_option linter.unusedVariables false
set_option linter.unusedSimpArgs false
namespace Go.Kin.Cl
section
variable (ls : List (List Int))
def txt : List Int := ls.headD []
def li (i : Nat) : List Int := ls.getD i []
/-- the pairs of a witness with the first one -/
def prI (i : Nat) : List (Int × Int) := if i = 0 then [] else prs (best (txt ls) (li ls i)) 0 0
def ysI (i : Nat) : List (Int × Int) := alY (prI ls i) 0
def sgI (i k : Nat) : List Int := sel (li ls i) k (ysI ls i)
def g0I (i : Nat) : Nat → Int := if i = 0 then fun q => (txt ls).getD q 0 else fun _ => 0
def tpI (i k : Nat) : Int := ov (li ls i) (prI ls i) (g0I ls i) k
/-- how many further loci the first `i` witnesses need behind `k` readings -/
def wdI : Nat → Nat → Nat
  | 0, _ => 0
  | i + 1, k => max (wdI i k) (sgI ls i k).length
def wd (k : Nat) : Nat := wdI ls ls.length k
def lociN : Nat := atk (wd ls) (txt ls).length + wd ls (txt ls).length
def rowI (i : Nat) : List Int := rowL (wd ls) (sgI ls i) (tpI ls i) (txt ls).length
end
variable {ls : List (List Int)}
theorem prI_0 : prI ls 0 = [] := if_pos rfl
theorem prI_s {i : Nat} (h : i ≠ 0) : prI ls i = prs (best (txt ls) (li ls i)) 0 0 := if_neg h
theorem li_0 : li ls 0 = txt ls := by cases ls <;> rfl
theorem sgI_0 (k : Nat) : sgI ls 0 k = [] := by unfold sgI ysI; rw [prI_0]; rfl
theorem wdI_1 (k : Nat) : wdI ls 1 k = 0 := by rw [wdI, sgI_0]; rfl
theorem wdI_mono {i j k : Nat} (h : i ≤ j) : wdI ls i k ≤ wdI ls j k := by
  induction j with
  | zero => have : i = 0 := by omega
            subst this; exact Nat.le_refl _
  | succ j ih =>
    by_cases e : i = j + 1
    · subst e; exact Nat.le_refl _
    · exact Nat.le_trans (ih (by omega)) (by rw [wdI]; exact Nat.le_max_left _ _)
theorem sgI_le {i k : Nat} (h : i < ls.length) : (sgI ls i k).length ≤ wd ls k := Nat.le_trans (by rw [wdI]; exact Nat.le_max_right _ _) (wdI_mono (i := i + 1) h)
theorem sel_len (b : List Int) (k : Int) : ∀ l : List (Int × Int), (sel b k l).length ≤ l.length
  | [] => Nat.le_refl _
  | y :: l => by have := sel_len b k l; rw [sel]; split <;> simp only [List.length_cons] <;> omega
theorem alY_len : ∀ (l : List (Int × Int)) (af : Int), (alY l af).length ≤ l.length
  | [], _ => Nat.le_refl _
  | x :: l, af => by rw [alY]; split <;> (have := alY_len l x.1; have := alY_len l af; simp only [List.length_cons]; omega)
theorem prs_len : ∀ (m : List Mv) (i k : Nat), (prs m i k).length = m.length
  | [], _, _ => rfl
  | .both :: m, i, k => by simp only [prs, List.length_cons, prs_len m]
  | .left :: m, i, k => by simp only [prs, List.length_cons, prs_len m]
  | .right :: m, i, k => by simp only [prs, List.length_cons, prs_len m]
theorem al_len {a b : List Int} {m : List Mv} {c : Int} (h : Al a b m c) : m.length ≤ a.length + b.length := by
  induction h <;> simp only [List.length_cons, List.length_nil] at * <;> omega
theorem prI_len (i : Nat) : (prI ls i).length ≤ (txt ls).length + (li ls i).length := by
  by_cases h : i = 0
  · rw [h, prI_0]; exact Nat.zero_le _
  · rw [prI_s h, prs_len]; exact al_len (best_al _ _)
/-- all lists are short -/
def Short (ls : List (List Int)) : Prop := ∀ i, (li ls i).length ≤ 64
theorem Short.txt (h : Short ls) : (txt ls).length ≤ 64 := by rw [← li_0]; exact h 0
theorem sgI_len (h : Short ls) (i k : Nat) : (sgI ls i k).length ≤ 128 := by
  have h1 := sel_len (li ls i) k (ysI ls i)
  have h2 := alY_len (prI ls i) 0
  have h3 := prI_len (ls := ls) i
  have h4 := h i
  have h5 := h.txt
  unfold sgI
  unfold ysI at *
  omega
theorem wdI_len (h : Short ls) : ∀ i k : Nat, wdI ls i k ≤ 128
  | 0, _ => Nat.zero_le _
  | i + 1, k => by rw [wdI]; exact Nat.max_le.2 ⟨wdI_len h i k, sgI_len h i k⟩
theorem atk_bd {w : Nat → Nat} (h : ∀ k, w k ≤ 128) : ∀ k, atk w k ≤ 129 * k
  | 0 => Nat.le_refl _
  | k + 1 => by have := atk_bd h k; have := h k; rw [atk]; omega
theorem prI_bd {i : Nat} : ∀ x ∈ prI ls i, (0 < x.1 ∧ x.1 ≤ (txt ls).length ∨ x.1 = 0) ∧ (0 < x.2 ∧ x.2 ≤ (li ls i).length ∨ x.2 = 0) ∧ (x.1 = 0 → 0 < x.2) := by
  intro x hx
  by_cases h : i = 0
  · rw [h, prI_0] at hx; cases hx
  · rw [prI_s h] at hx
    have := prs_bd (b := li ls i) (best_al (txt ls) (li ls i)) 0 0 rfl x hx
    omega
theorem ysI_bd {i : Nat} : ∀ y ∈ ysI ls i, 0 ≤ y.1 ∧ y.1 ≤ (txt ls).length ∧ 0 ≤ y.2 ∧ y.2 < (li ls i).length := by
  intro y hy
  unfold ysI at hy
  by_cases h : i = 0
  · rw [h, prI_0] at hy; cases hy
  · rw [prI_s h] at hy
    have := alY_bd (b := li ls i) (best_al (txt ls) (li ls i)) 0 0 rfl y hy
    omega
theorem sgI_alo {i : Nat} (h : i ≠ 0) (k : Nat) : sgI ls i k = alo (best (txt ls) (li ls i)) (li ls i) k := by
  unfold sgI ysI
  rw [prI_s h]
  have := sel_alY (li ls i) (best_al (txt ls) (li ls i)) 0 0 rfl k
  rw [if_pos (Nat.zero_le _)] at this
  exact this
theorem tpI_bsc {i : Nat} (h : i ≠ 0) (k : Nat) : tpI ls i k = bsc (best (txt ls) (li ls i)) (li ls i) k := by
  unfold tpI g0I
  rw [prI_s h, if_neg h, ov_prs (li ls i) (best_al (txt ls) (li ls i)) 0 0 _ rfl (fun _ _ => rfl) k, if_neg (by omega)]
  rfl
theorem tpI_0 (k : Nat) : tpI ls 0 k = (txt ls).getD k 0 := by unfold tpI g0I; rw [prI_0, if_pos rfl]; rfl
/-- the specification's own words -/
theorem sgI_ref (i k : Nat) : aloF (li ls i) k (prI ls i) 0 = sgI ls i k := by
  by_cases h : i = 0
  · rw [h, prI_0, sgI_0]; rfl
  · rw [sgI_alo h, prI_s h]
    have := aloF_prs (li ls i) k (best_al (txt ls) (li ls i)) 0 0 rfl
    rw [if_pos (Nat.zero_le _)] at this
    exact this
theorem tpI_ref {i : Nat} (h : i ≠ 0) (k : Nat) : besF (li ls i) k (prI ls i) = tpI ls i k := by
  rw [tpI_bsc h, prI_s h]
  exact besF_prs (li ls i) k (best_al (txt ls) (li ls i)) 0 0 rfl (Nat.zero_le _)
theorem rowI_len {i : Nat} (h : i < ls.length) : (rowI ls i).length = lociN ls := rowL_len fun k _ => sgI_le h
/-- after some yields: how many codes lie behind each reading -/
theorem sel_take_succ {b : List Int} {ys : List (Int × Int)} {t : Nat} {y : Int × Int} (h : ys[t]? = some y) (k : Int) : sel b k (ys.take (t + 1)) = sel b k (ys.take t) ++ (if y.1 = k then [b.getD y.2.toNat 0] else []) := by
  rw [List.take_add_one, h]; exact sel_snoc b k y _
end Go.Kin.Cl
