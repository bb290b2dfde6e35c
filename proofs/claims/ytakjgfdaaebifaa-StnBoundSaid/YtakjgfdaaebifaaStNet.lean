import Derived.Test.YtakjgfdaaebifaaStCyc
set_option linter.unusedSectionVars false
set_option linter.unusedVariables false
set_option linter.unusedSimpArgs false
/-! Networks: links and their steps. Plain Lean. -/
namespace Go.Kin.St

structure Lk where
  fr : Int
  to : Int
  lo : Int
  hi : Int
deriving DecidableEq

def up (x : Lk) : Ed := ⟨x.fr.toNat, x.to.toNat, x.hi⟩
def dn (x : Lk) : Ed := ⟨x.to.toNat, x.fr.toNat, - x.lo⟩

/-- The steps of a network, in the program's order. -/
def edges : List Lk → List Ed
  | [] => []
  | x :: l => up x :: dn x :: edges l

/-- ... and in the specification's order. -/
def edges' : List Lk → List Ed
  | [] => []
  | x :: l => dn x :: up x :: edges' l

theorem edges_mem {l : List Lk} {e : Ed} : e ∈ edges l ↔ ∃ x ∈ l, e = up x ∨ e = dn x := by
  induction l with
  | nil => simp [edges]
  | cons x l ih => simp only [edges, List.mem_cons, ih]; grind

theorem edges'_mem {l : List Lk} {e : Ed} : e ∈ edges' l ↔ ∃ x ∈ l, e = up x ∨ e = dn x := by
  induction l with
  | nil => simp [edges']
  | cons x l ih => simp only [edges', List.mem_cons, ih]; grind

theorem edges_len (l : List Lk) : (edges l).length = 2 * l.length := by
  induction l with
  | nil => rfl
  | cons x l ih => simp only [edges, List.length_cons, ih]; omega

theorem edges_up (l : List Lk) (i : Nat) : (edges l)[2 * i]? = (l[i]?).map up := by
  induction l generalizing i with
  | nil => simp [edges]
  | cons x l ih =>
    cases i with
    | zero => simp [edges]
    | succ i =>
      rw [show 2 * (i + 1) = 2 * i + 1 + 1 by omega]
      simp only [edges, List.getElem?_cons_succ, ih]

theorem edges_dn (l : List Lk) (i : Nat) : (edges l)[2 * i + 1]? = (l[i]?).map dn := by
  induction l generalizing i with
  | nil => simp [edges]
  | cons x l ih =>
    cases i with
    | zero => simp [edges]
    | succ i =>
      rw [show 2 * (i + 1) + 1 = 2 * i + 1 + 1 + 1 by omega]
      simp only [edges, List.getElem?_cons_succ, ih]

/-- A link between points below `n`, with its numbers in their bounds. -/
def Lk.Fine (n : Int) (x : Lk) : Prop :=
  0 ≤ x.fr ∧ x.fr < n ∧ 0 ≤ x.to ∧ x.to < n ∧ x.fr ≠ x.to ∧ -1099511627776 ≤ x.lo ∧ x.lo ≤ x.hi ∧ x.hi ≤ 1099511627776

instance (n : Int) (x : Lk) : Decidable (x.Fine n) := by unfold Lk.Fine; exact inferInstance

def Fine (n : Int) (l : List Lk) : Prop := ∀ x ∈ l, x.Fine n

instance (n : Int) (l : List Lk) : Decidable (Fine n l) := by unfold Fine; exact inferInstance

theorem Fine.inE {n : Int} {l : List Lk} (h : Fine n l) : In n.toNat (edges l) := by
  intro e he
  obtain ⟨x, hx, rfl | rfl⟩ := edges_mem.1 he
  all_goals
    have := h x hx
    unfold Lk.Fine at this
    simp only [up, dn]; omega

theorem Fine.loopless {n : Int} {l : List Lk} (h : Fine n l) : Loopless (edges l) := by
  intro e he
  obtain ⟨x, hx, rfl | rfl⟩ := edges_mem.1 he
  all_goals
    have := h x hx
    unfold Lk.Fine at this
    simp only [up, dn]; omega

theorem Fine.weights {n : Int} {l : List Lk} (h : Fine n l) : ∀ e ∈ edges l, -1099511627776 ≤ e.w ∧ e.w ≤ 1099511627776 := by
  intro e he
  obtain ⟨x, hx, rfl | rfl⟩ := edges_mem.1 he
  all_goals
    have := h x hx
    unfold Lk.Fine at this
    simp only [up, dn]; omega

theorem Fine.inE' {n : Int} {l : List Lk} (h : Fine n l) : In n.toNat (edges' l) :=
  fun e he => h.inE e (edges_mem.2 (edges'_mem.1 he))

theorem sol_same (l : List Lk) (t : Nat → Int) : Sol (edges l) t ↔ Sol (edges' l) t :=
  sol_congr (fun _ => by rw [edges_mem, edges'_mem]) t

/-- A schedule, by its definition. -/
theorem sol_links (l : List Lk) (t : Nat → Int) :
    Sol (edges l) t ↔ ∀ x ∈ l, x.lo ≤ t x.to.toNat - t x.fr.toNat ∧ t x.to.toNat - t x.fr.toNat ≤ x.hi := by
  constructor
  · intro h x hx
    have h1 := h (up x) (edges_mem.2 ⟨x, hx, Or.inl rfl⟩)
    have h2 := h (dn x) (edges_mem.2 ⟨x, hx, Or.inr rfl⟩)
    simp only [up, dn] at h1 h2
    omega
  · intro h e he
    obtain ⟨x, hx, rfl | rfl⟩ := edges_mem.1 he
    all_goals
      have := h x hx
      simp only [up, dn]; omega

end Go.Kin.St
