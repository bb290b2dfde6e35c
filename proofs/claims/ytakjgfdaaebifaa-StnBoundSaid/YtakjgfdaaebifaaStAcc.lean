import Derived.Test.YtakjgfdaaebifaaStWid
set_option linter.unusedSectionVars false
set_option linter.unusedVariables false
set_option linter.unusedSimpArgs false
/-! What Accepts asks, and what it means. Plain Lean. -/
namespace Go.Kin.St

structure Us where
  link : Int
  lower : Bool
deriving DecidableEq

/-- The step of a use, if there is such a link. -/
def stepOf (l : List Lk) (u : Us) : Option Ed :=
  if 0 ≤ u.link then (l[u.link.toNat]?).map (fun x => if u.lower = true then dn x else up x) else none

/-- The walk along uses: the sum, if each is met and begins where the last ended. -/
def run (l : List Lk) : Nat → Int → List Us → Option Int
  | _, s, [] => some s
  | p, s, u :: us => match stepOf l u with
    | none => none
    | some e => if e.a = p then run l e.b (s + e.w) us else none

/-- Where the last use ends (0 where there is no such link). -/
def lastEnd (l : List Lk) (us : List Us) : Nat := match us.getLast? with
  | none => 0
  | some u => match stepOf l u with
    | none => 0
    | some e => e.b

def accepts (l : List Lk) (us : List Us) : Bool := match run l (lastEnd l us) 0 us with
  | none => false
  | some s => decide (s < 0)

theorem stepOf_mem {l : List Lk} {u : Us} {e : Ed} (h : stepOf l u = some e) : e ∈ edges l := by
  unfold stepOf at h
  split at h
  · cases hx : l[u.link.toNat]? with
    | none => rw [hx] at h; cases h
    | some x =>
      rw [hx] at h
      simp only [Option.map_some, Option.some.injEq] at h
      refine edges_mem.2 ⟨x, List.mem_of_getElem? hx, ?_⟩
      subst h
      split
      · exact .inr rfl
      · exact .inl rfl
  · cases h

theorem run_some {l : List Lk} {us : List Us} {p : Nat} {s r : Int} (h : run l p s us = some r) :
    ∃ E, us.map (stepOf l) = E.map some ∧ (∀ e ∈ E, e ∈ edges l) ∧ follows p E ∧ r = s + weight E := by
  induction us generalizing p s with
  | nil =>
    simp only [run, Option.some.injEq] at h
    exact ⟨[], rfl, fun e he => (by cases he), trivial, by simp [weight, h]⟩
  | cons u us ih =>
    simp only [run] at h
    cases hu : stepOf l u with
    | none => rw [hu] at h; cases h
    | some e =>
      rw [hu] at h
      simp only at h
      by_cases hp : e.a = p
      · rw [if_pos hp] at h
        obtain ⟨E, h1, h2, h3, h4⟩ := ih h
        refine ⟨e :: E, by simp only [List.map_cons, hu, h1], fun f hf => ?_, ⟨hp, h3⟩, by simp only [weight]; omega⟩
        rcases List.mem_cons.1 hf with rfl | hf
        · exact stepOf_mem hu
        · exact h2 f hf
      · rw [if_neg hp] at h; cases h

theorem run_of {l : List Lk} {us : List Us} {E : List Ed} {p : Nat} {s : Int} (h : us.map (stepOf l) = E.map some) (hf : follows p E) :
    run l p s us = some (s + weight E) := by
  induction us generalizing p s E with
  | nil =>
    cases E with
    | nil => simp [run, weight]
    | cons e E => cases h
  | cons u us ih =>
    cases E with
    | nil => cases h
    | cons e E =>
      simp only [List.map_cons, List.cons.injEq] at h
      obtain ⟨h1, h2⟩ := h
      obtain ⟨h3, h4⟩ := hf
      simp only [run, h1, h3, if_true, weight]
      rw [ih h2 h4]
      congr 1; omega

theorem endOf_last {E : List Ed} {p : Nat} {e : Ed} (h : E.getLast? = some e) : endOf p E = e.b := by
  induction E generalizing p with
  | nil => cases h
  | cons f E ih =>
    cases E with
    | nil => simp only [List.getLast?_singleton, Option.some.injEq] at h; subst h; rfl
    | cons g E =>
      rw [List.getLast?_cons_cons] at h
      exact ih (p := f.b) h

theorem lastEnd_eq {l : List Lk} {us : List Us} {E : List Ed} (h : us.map (stepOf l) = E.map some) (hne : us ≠ []) (p : Nat) :
    lastEnd l us = endOf p E := by
  have h1 : (us.map (stepOf l)).getLast? = (E.map some).getLast? := by rw [h]
  rw [List.getLast?_map, List.getLast?_map] at h1
  unfold lastEnd
  cases hu : us.getLast? with
  | none => exact absurd (List.getLast?_eq_none_iff.1 hu) hne
  | some u =>
    rw [hu] at h1
    cases he : E.getLast? with
    | none => rw [he] at h1; cases h1
    | some e =>
      rw [he] at h1
      simp only [Option.map_some, Option.some.injEq] at h1
      simp only [h1]
      rw [endOf_last he]

/-- Whatever is accepted leaves no schedule. -/
theorem accepts_none {l : List Lk} {us : List Us} (hne : us ≠ []) (h : accepts l us = true) (t : Nat → Int) : ¬ Sol (edges l) t := by
  unfold accepts at h
  cases hr : run l (lastEnd l us) 0 us with
  | none => rw [hr] at h; cases h
  | some s =>
    rw [hr] at h
    simp only [decide_eq_true_eq] at h
    obtain ⟨E, h1, h2, h3, h4⟩ := run_some hr
    exact closed_none h3 (lastEnd_eq h1 hne _).symm (by omega) h2 t

/-- A closed walk of negative weight is accepted. -/
theorem accepts_of {l : List Lk} {us : List Us} {E : List Ed} {p : Nat} (h : us.map (stepOf l) = E.map some) (hne : us ≠ []) (hf : follows p E)
    (he : endOf p E = p) (hw : weight E < 0) : accepts l us = true := by
  unfold accepts
  rw [lastEnd_eq h hne p, he, run_of h hf]
  simp only [decide_eq_true_eq]; omega

/-- The use of the edge with the number k. -/
def useOf (k : Nat) : Us := ⟨(k / 2 : Nat), decide (k % 2 = 1)⟩

theorem stepOf_useOf (l : List Lk) (k : Nat) : stepOf l (useOf k) = (edges l)[k]? := by
  unfold stepOf useOf
  simp only [Int.natCast_nonneg, if_true, Int.toNat_natCast, decide_eq_true_eq]
  rcases Nat.mod_two_eq_zero_or_one k with h | h
  · have hk : k = 2 * (k / 2) := by omega
    rw [show (edges l)[k]? = (edges l)[2 * (k / 2)]? by rw [← hk], edges_up]
    simp [h]
  · have hk : k = 2 * (k / 2) + 1 := by omega
    rw [show (edges l)[k]? = (edges l)[2 * (k / 2) + 1]? by rw [← hk], edges_dn]
    simp [h]

/-- In the specification: all links are there, and then the walk. -/
def known (l : List Lk) (us : List Us) : Bool := us.all (fun u => decide (0 ≤ u.link) && decide (u.link < l.length))

theorem stepOf_known {l : List Lk} {u : Us} : (stepOf l u).isSome = (decide (0 ≤ u.link) && decide (u.link < l.length)) := by
  unfold stepOf
  by_cases h : 0 ≤ u.link
  · by_cases h2 : u.link < l.length
    · rw [if_pos h, List.getElem?_eq_getElem (by omega)]; simp [h, h2]
    · rw [if_pos h, List.getElem?_eq_none (by omega)]; simp [h2]
  · rw [if_neg h]; simp [h]

theorem accepts_known {l : List Lk} {us : List Us} (h : known l us = false) : accepts l us = false := by
  unfold accepts
  have : ∀ p s, run l p s us = none := by
    unfold known at h
    induction us with
    | nil => cases h
    | cons u us ih =>
      intro p s
      simp only [run]
      cases hu : stepOf l u with
      | none => rfl
      | some e =>
        simp only
        split
        · refine ih ?_ _ _
          have h1 : (stepOf l u).isSome = true := by rw [hu]; rfl
          rw [stepOf_known] at h1
          simpa only [List.all_cons, h1, Bool.true_and] using h
        · rfl
  rw [this]

end Go.Kin.St
