/- Clocks: bars and pauses one after another. Plain Lean. -/
import Derived.Test.YtjagcijgfmclhaaTmMath
set_option linter.unusedSectionVars false
set_option linter.unusedVariables false
set_option linter.unusedSimpArgs false
namespace Go.Kin.Tm

structure Pt where
  bar : Int
  b : Int
  e : Int
  play : Bool
def hasP (ps : List Ps) (i : Nat) (k : Int) : Bool := match ps[i]? with
  | some p => decide (p.bar = k)
  | none => false
/-- bars and pauses, from a bar on -/
def pf (tk : Int → Int) (ps : List Ps) (len : Nat → Int) : Nat → Int → Int → Nat → List Pt
  | 0, _, _, _ => []
  | f + 1, k, at', i => ⟨k, at', at' + tk k, true⟩ ::
    (if hasP ps i k then ⟨k, at' + tk k, at' + tk k + len i, false⟩ :: pf tk ps len f (k + 1) (at' + tk k + len i) (i + 1) else pf tk ps len f (k + 1) (at' + tk k) i)
/-- the length of the pause behind a bar -/
def pa (len : Nat → Int) : List Ps → Nat → Int → Int
  | [], _, _ => 0
  | p :: l, i, k => if p.bar = k then len i else pa len l (i + 1) k
/-- when a bar begins -/
def Bt (tk pa : Int → Int) : Nat → Int
  | 0 => 0
  | k + 1 => Bt tk pa k + tk k + pa k
def ascP (last n : Int) : List Ps → Bool
  | [] => true
  | p :: l => inB p.bar (last + 1) (n - 2) && inB p.kind 1 2 && inB p.lo 0 p.hi && decide (p.hi ≤ 1048576) && ascP p.bar n l
theorem ascP_get : ∀ {ps : List Ps} {last n : Int} {i : Nat} {p : Ps}, ascP last n ps = true → ps[i]? = some p → last < p.bar ∧ p.bar < n - 1 ∧ (p.kind = 1 ∨ p.kind = 2) ∧ (0 ≤ p.lo ∧ p.lo ≤ p.hi) ∧ p.hi ≤ 1048576
  | [], _, _, _, _, _, h => by simp at h
  | q :: l, last, n, i, p, ha, h => by
    simp only [ascP, Bool.and_eq_true, inB_iff, decide_eq_true_eq] at ha
    obtain ⟨⟨⟨⟨a1, a2⟩, a3⟩, a4⟩, a5⟩ := ha
    cases i with
    | zero => simp at h; subst h; exact ⟨by omega, by omega, by omega, a3, a4⟩
    | succ i =>
      have := ascP_get (ps := l) (i := i) a5 (by simpa using h)
      exact ⟨by omega, this.2⟩
theorem ascP_lt : ∀ {ps : List Ps} {last n : Int} {i j : Nat} {p q : Ps}, ascP last n ps = true → i < j → ps[i]? = some p → ps[j]? = some q → p.bar < q.bar
  | [], _, _, _, _, _, _, _, _, h, _ => by simp at h
  | v :: l, last, n, i, j, p, q, ha, hij, h1, h2 => by
    simp only [ascP, Bool.and_eq_true] at ha
    obtain ⟨_, a5⟩ := ha
    cases j with
    | zero => omega
    | succ j =>
      cases i with
      | zero => simp at h1; subst h1; exact (ascP_get (i := j) a5 (by simpa using h2)).1
      | succ i => exact ascP_lt (ps := l) (i := i) (j := j) a5 (by omega) (by simpa using h1) (by simpa using h2)
/-- so many pauses lie ahead of a bar -/
def At (ps : List Ps) (i : Nat) (k : Int) : Prop := i ≤ ps.length ∧ (∀ j p, j < i → ps[j]? = some p → p.bar < k) ∧ ∀ j p, i ≤ j → ps[j]? = some p → k ≤ p.bar
theorem at_zero {ps : List Ps} {n : Int} (ha : ascP (-1) n ps = true) : At ps 0 0 := ⟨Nat.zero_le _, fun j p h => by omega, fun j p _ h => by have := ascP_get ha h; omega⟩
theorem at_has {ps : List Ps} {n k : Int} {last : Int} {i : Nat} (ha : ascP last n ps = true) (h : At ps i k) (hh : hasP ps i k = true) : At ps (i + 1) (k + 1) := by
  unfold hasP at hh
  split at hh
  · rename_i p hp
    have hk : p.bar = k := of_decide_eq_true hh
    have hl := (List.getElem?_eq_some_iff.1 hp).1
    refine ⟨hl, fun j q hj hq => ?_, fun j q hj hq => ?_⟩
    · by_cases hji : j = i
      · subst hji; rw [hp] at hq; cases hq; omega
      · have := h.2.1 j q (by omega) hq; omega
    · have := ascP_lt ha (by omega : i < j) hp hq; omega
  · cases hh
theorem at_not {ps : List Ps} {n k : Int} {last : Int} {i : Nat} (ha : ascP last n ps = true) (h : At ps i k) (hh : hasP ps i k = false) : At ps i (k + 1) := by
  refine ⟨h.1, fun j q hj hq => by have := h.2.1 j q hj hq; omega, fun j q hj hq => ?_⟩
  have h1 := h.2.2 j q hj hq
  by_cases hji : j = i
  · subst hji
    unfold hasP at hh
    rw [hq] at hh
    have : ¬ q.bar = k := of_decide_eq_false hh
    omega
  · obtain ⟨p, hp⟩ : ∃ p, ps[i]? = some p := ⟨_, List.getElem?_eq_getElem (by have := (List.getElem?_eq_some_iff.1 hq).1; omega)⟩
    have := ascP_lt ha (by omega : i < j) hp hq
    have := h.2.2 i p (Nat.le_refl _) hp
    omega
theorem pa_none {len : Nat → Int} : ∀ {ps : List Ps} {o : Nat} {k : Int}, (∀ (j : Nat) (p : Ps), ps[j]? = some p → p.bar ≠ k) → pa len ps o k = 0
  | [], _, _, _ => rfl
  | p :: l, o, k, h => by
    unfold pa
    rw [if_neg (h 0 p rfl)]
    exact pa_none fun j q hq => h (j + 1) q (by simpa using hq)
theorem pa_some {len : Nat → Int} : ∀ {ps : List Ps} {o i : Nat} {k : Int} {p : Ps}, ps[i]? = some p → p.bar = k → (∀ j q, j < i → ps[j]? = some q → q.bar ≠ k) → pa len ps o k = len (o + i)
  | [], _, _, _, _, h, _, _ => by simp at h
  | q :: l, o, i, k, p, h, hk, hn => by
    unfold pa
    cases i with
    | zero => simp at h; subst h; rw [if_pos hk]; rfl
    | succ i =>
      rw [if_neg (hn 0 q (by omega) rfl), pa_some (i := i) (p := p) (by simpa using h) hk fun j r hj hr => hn (j + 1) r (by omega) (by simpa using hr)]
      congr 1; omega
theorem pa_at {ps : List Ps} {len : Nat → Int} {i : Nat} {k : Int} (h : At ps i k) : pa len ps 0 k = if hasP ps i k then len i else if ∃ p, ps[i]? = some p ∧ p.bar = k then 0 else pa len ps 0 k := by
  cases hh : hasP ps i k with
  | true =>
    unfold hasP at hh
    split at hh
    · rename_i p hp
      rw [pa_some (i := i) hp (of_decide_eq_true hh) fun j q hj hq => by have := h.2.1 j q hj hq; omega, Nat.zero_add]; rfl
    · cases hh
  | false =>
    have : ¬ ∃ p, ps[i]? = some p ∧ p.bar = k := fun ⟨p, hp, hk⟩ => by
      unfold hasP at hh
      rw [hp] at hh
      exact of_decide_eq_false hh hk
    rw [if_neg this]; rfl
theorem pa_has {ps : List Ps} {len : Nat → Int} {i : Nat} {k : Int} (h : At ps i k) (hh : hasP ps i k = true) : pa len ps 0 k = len i := by
  rw [pa_at h, hh]; rfl
theorem pa_not {ps : List Ps} {len : Nat → Int} {n last : Int} {i : Nat} {k : Int} (ha : ascP last n ps = true) (h : At ps i k) (hh : hasP ps i k = false) : pa len ps 0 k = 0 := by
  have h2 := at_not ha h hh
  refine pa_none fun j p hp he => ?_
  by_cases hj : j < i
  · have := h.2.1 j p hj hp; omega
  · have := h2.2.2 j p (by omega) hp; omega

/-! ## Where a bar begins -/
/-- what the search for a bar's beginning does -/
def bg : List Pt → Int → Int → Int
  | [], _, at' => at'
  | x :: l, bar, at' => if bar ≤ x.bar then at' else bg l bar x.e
theorem bg_pf {tk : Int → Int} {ps : List Ps} {len : Nat → Int} {n : Int} (ha : ascP (-1) n ps = true) : ∀ (f k i : Nat) (bar : Nat), At ps i k → k ≤ bar → bar ≤ k + f →
    bg (pf tk ps len f k (Bt tk (pa len ps 0) k) i) bar (Bt tk (pa len ps 0) k) = Bt tk (pa len ps 0) bar
  | 0, k, i, bar, h, h1, h2 => by
    have : bar = k := by omega
    subst this; rfl
  | f + 1, k, i, bar, h, h1, h2 => by
    by_cases hk : bar = k
    · subst hk
      unfold pf bg
      rw [if_pos (Int.le_refl _)]
    · unfold pf bg
      rw [if_neg (by simp only; omega)]
      cases hh : hasP ps i k with
      | true =>
        rw [if_pos rfl]
        unfold bg
        rw [if_neg (by simp only; omega)]
        have hB : Bt tk (pa len ps 0) (k + 1) = Bt tk (pa len ps 0) k + tk k + len i := by rw [← pa_has (len := len) h hh]; rfl
        have := bg_pf (tk := tk) (len := len) ha f (k + 1) (i + 1) bar (by exact_mod_cast at_has ha h hh) (by omega) (by omega)
        rw [hB] at this
        exact_mod_cast this
      | false =>
        rw [if_neg Bool.false_ne_true]
        have hB : Bt tk (pa len ps 0) (k + 1) = Bt tk (pa len ps 0) k + tk k := by
          show Bt tk (pa len ps 0) k + tk k + pa len ps 0 k = _
          rw [pa_not ha h hh]; omega
        have := bg_pf (tk := tk) (len := len) ha f (k + 1) i bar (by exact_mod_cast at_not ha h hh) (by omega) (by omega)
        rw [hB] at this
        exact_mod_cast this
/-! ## What lies at a tick -/
def loc : List Pt → Int → Option (Int × Int × Bool)
  | [], _ => none
  | x :: l, t => if t < x.e then some (x.bar, t - x.b, x.play) else loc l t
/-- what the reference does -/
def loc2 (tk pa : Int → Int) : Nat → Int → Int → Int → Option (Int × Int × Bool)
  | 0, _, _, _ => none
  | f + 1, k, at', t => if t < at' + tk k then some (k, t - at', true) else if t < at' + tk k + pa k then some (k, t - (at' + tk k), false) else loc2 tk pa f (k + 1) (at' + tk k + pa k) t
theorem loc_pf {tk : Int → Int} {ps : List Ps} {len : Nat → Int} {n : Int} (ha : ascP (-1) n ps = true) (t : Int) : ∀ (f : Nat) (k at' : Int) (i : Nat), At ps i k →
    loc (pf tk ps len f k at' i) t = loc2 tk (pa len ps 0) f k at' t
  | 0, k, at', i, h => rfl
  | f + 1, k, at', i, h => by
    unfold pf loc loc2
    simp only
    by_cases h1 : t < at' + tk k
    · rw [if_pos h1, if_pos h1]
    · rw [if_neg h1, if_neg h1]
      cases hh : hasP ps i k with
      | true =>
        rw [if_pos rfl, pa_has h hh]
        unfold loc
        simp only
        by_cases h2 : t < at' + tk k + len i
        · rw [if_pos h2, if_pos h2]
        · rw [if_neg h2, if_neg h2]
          exact loc_pf ha t f (k + 1) _ (i + 1) (at_has ha h hh)
      | false =>
        rw [if_neg Bool.false_ne_true, pa_not ha h hh, if_neg (by omega), Int.add_zero]
        exact loc_pf ha t f (k + 1) _ i (at_not ha h hh)
end Go.Kin.Tm
