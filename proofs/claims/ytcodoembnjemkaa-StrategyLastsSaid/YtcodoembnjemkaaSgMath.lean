/-! Difference constraints: the least schedule, and why n rounds reach it. Plain Lean. -/
set_option linter.unusedSectionVars false
set_option linter.unusedVariables false
set_option linter.unusedSimpArgs false
namespace Go.Kin.St

/-- The time of `b` less that of `a` is at most `w`. -/
structure Ed where
  a : Nat
  b : Nat
  w : Int

def upd {α : Type} (t : Nat → α) (i : Nat) (v : α) : Nat → α := fun x => if x = i then v else t x

theorem upd_self {α : Type} (t : Nat → α) (i : Nat) (v : α) : upd t i v i = v := by simp [upd]
theorem upd_other {α : Type} (t : Nat → α) {i x : Nat} (v : α) (h : x ≠ i) : upd t i v x = t x := by simp [upd, h]

/-- All constraints are kept. -/
def Sol (E : List Ed) (t : Nat → Int) : Prop := ∀ e ∈ E, t e.b - t e.a ≤ e.w

/-- All edges are between points below `n`. -/
def In (n : Nat) (E : List Ed) : Prop := ∀ e ∈ E, e.a < n ∧ e.b < n

def raise (t : Nat → Int) (e : Ed) : Nat → Int := upd t e.a (max (t e.a) (t e.b - e.w))

def pass (E : List Ed) (t : Nat → Int) : Nat → Int := E.foldl raise t

/-! ## Sums and counts below n -/

def sum : Nat → (Nat → Int) → Int
  | 0, _ => 0
  | n + 1, f => sum n f + f n

noncomputable def cnt : Nat → (Nat → Prop) → Nat
  | 0, _ => 0
  | n + 1, p => cnt n p + (open Classical in if p n then 1 else 0)

theorem cnt_le (n : Nat) (p : Nat → Prop) : cnt n p ≤ n := by
  induction n with
  | zero => simp [cnt]
  | succ n ih => simp only [cnt]; split <;> omega

/-! ## The least schedule -/

theorem sol_min {E : List Ed} {s u : Nat → Int} (hs : Sol E s) (hu : Sol E u) : Sol E (fun x => min (s x) (u x)) := by
  intro e he
  have h1 := hs e he
  have h2 := hu e he
  simp only; omega

theorem sol_shift {E : List Ed} {s : Nat → Int} (hs : Sol E s) (k : Int) : Sol E (fun x => s x + k) := by
  intro e he
  have h1 := hs e he
  simp only; omega

/-- `L` is the least schedule that is nowhere below `I`. -/
structure Least (n : Nat) (E : List Ed) (I L : Nat → Int) : Prop where
  sol : Sol E L
  pos : ∀ x, x < n → I x ≤ L x
  le : ∀ s, Sol E s → (∀ x, x < n → I x ≤ s x) → ∀ x, x < n → L x ≤ s x

/-- Only the set of edges counts. -/
theorem sol_congr {E F : List Ed} (h : ∀ e, e ∈ E ↔ e ∈ F) (t : Nat → Int) : Sol E t ↔ Sol F t :=
  ⟨fun g e he => g e ((h e).2 he), fun g e he => g e ((h e).1 he)⟩

theorem Least.congr {n : Nat} {E F : List Ed} (h : ∀ e, e ∈ E ↔ e ∈ F) {I L : Nat → Int} (g : Least n E I L) : Least n F I L :=
  ⟨(sol_congr h L).1 g.sol, g.pos, fun s hs => g.le s ((sol_congr h s).2 hs)⟩

/-! ## Passes -/

def passes (E : List Ed) : Nat → (Nat → Int) → (Nat → Int)
  | 0, t => t
  | k + 1, t => pass E (passes E k t)

/-! ## The first pass that keeps all -/

end Go.Kin.St

set_option linter.unusedSectionVars false
set_option linter.unusedVariables false
set_option linter.unusedSimpArgs false
/-! The greatest difference of two times: lowering passes are raising passes of the network turned about. Plain Lean. -/
namespace Go.Kin.St

def neg (t : Nat → Int) : Nat → Int := fun x => - t x
def low (t : Nat → Int) (e : Ed) : Nat → Int := upd t e.b (min (t e.b) (t e.a + e.w))
/-! ## Distances, and whether they are known -/

def reach (p : (Nat → Int) × (Nat → Bool)) (e : Ed) : (Nat → Int) × (Nat → Bool) :=
  if p.2 e.a = true ∧ (p.2 e.b = false ∨ p.1 e.a + e.w < p.1 e.b) then (upd p.1 e.b (p.1 e.a + e.w), upd p.2 e.b true) else p

def reachs (E : List Ed) (p : (Nat → Int) × (Nat → Bool)) : (Nat → Int) × (Nat → Bool) := E.foldl reach p

def reached (E : List Ed) : Nat → (Nat → Int) × (Nat → Bool) → (Nat → Int) × (Nat → Bool)
  | 0, p => p
  | k + 1, p => reachs E (reached E k p)

/-! ## What a bound means -/

/-- Between two differences lie no gaps. -/
theorem between {E : List Ed} {a b : Nat} {t u : Nat → Int} (ht : Sol E t) (hu : Sol E u) {v : Int}
    (h1 : t b - t a ≤ v) (h2 : v ≤ u b - u a) : ∃ r, Sol E r ∧ r b - r a = v := by
  refine ⟨fun x => min (u x + (- u a)) (t x + (- t a + (v - (t b - t a)))), sol_min (sol_shift hu _) (sol_shift ht _), ?_⟩
  show min (u b + - u a) (t b + (- t a + (v - (t b - t a)))) - min (u a + - u a) (t a + (- t a + (v - (t b - t a)))) = v
  omega

/-! ## Closed walks -/

def follows : Nat → List Ed → Prop
  | _, [] => True
  | p, e :: l => e.a = p ∧ follows e.b l

def weight : List Ed → Int
  | [] => 0
  | e :: l => e.w + weight l

end Go.Kin.St

set_option linter.unusedSectionVars false
set_option linter.unusedVariables false
set_option linter.unusedSimpArgs false
/-! The search for a negative cycle: stamps of the last update, and why `from` leads into a negative cycle. Plain Lean. -/
namespace Go.Kin.St

/-- The state of the search: distances, the points they came from, the edges' numbers, and (a ghost) the time of the last update. -/
structure Sr where
  d : Nat → Int
  fr : Nat → Nat
  by_ : Nat → Nat
  T : Nat → Nat

/-- One edge, with its number `k`, at the time `now`. -/
def Sr.step (s : Sr) (e : Ed) (k now : Nat) : Sr :=
  if s.d e.a + e.w < s.d e.b then ⟨upd s.d e.b (s.d e.a + e.w), upd s.fr e.b e.a, upd s.by_ e.b k, upd s.T e.b now⟩ else s

/-- an edge from a point to itself never raises it -/
def Loopless (E : List Ed) : Prop := ∀ e ∈ E, e.a = e.b → 0 ≤ e.w

/-- What holds of a point that was updated. -/
structure Pt (E : List Ed) (s : Sr) (now x : Nat) : Prop where
  le : s.T x ≤ now
  has : 0 < s.T x → ∃ e, E[s.by_ x]? = some e ∧ e.b = x ∧ s.fr x = e.a ∧ s.d e.a + e.w ≤ s.d x ∧ s.T e.a ≠ s.T x ∧
    (s.T x < s.T e.a → s.d e.a + e.w < s.d x) ∧ (E.length < s.T x → s.T x < s.T e.a + E.length)

structure Inv (E : List Ed) (s : Sr) (now : Nat) : Prop where
  pt : ∀ x, Pt E s now x
  ed : ∀ τ, 1 ≤ τ → τ ≤ now → now < τ + E.length → ∀ e, E[(τ - 1) % E.length]? = some e → s.T e.a ≤ τ → s.d e.b ≤ s.d e.a + e.w

theorem Inv.start (E : List Ed) (f b : Nat → Nat) : Inv E ⟨fun _ => 0, f, b, fun _ => 0⟩ 0 :=
  ⟨fun x => ⟨Nat.le_refl _, fun h => absurd h (by simp)⟩, fun τ h1 h2 => by omega⟩

theorem Inv.next {E : List Ed} {s : Sr} {now : Nat} (h : Inv E s now) (hl : Loopless E) {e : Ed} (he : E[now % E.length]? = some e) :
    Inv E (s.step e (now % E.length) (now + 1)) (now + 1) := by
  have hm : 0 < E.length := by
    rcases Nat.eq_zero_or_pos E.length with h0 | h0
    · have : E = [] := List.length_eq_zero_iff.1 h0
      subst this; simp at he
    · exact h0
  unfold Sr.step
  by_cases hf : s.d e.a + e.w < s.d e.b
  · have hne : e.a ≠ e.b := fun h => by have := hl e (List.mem_of_getElem? he) h; rw [h] at hf; omega
    rw [if_pos hf]
    refine ⟨fun x => ?_, fun τ h1 h2 h3 g hg ht => ?_⟩
    · have hx := h.pt x
      by_cases hxb : x = e.b
      · subst hxb
        refine ⟨by simp [upd], fun _ => ⟨e, ?_⟩⟩
        have ha := (h.pt e.a).le
        simp only [upd_self, upd_other _ _ hne]
        refine ⟨he, trivial, trivial, Int.le_refl _, by omega, fun hlt => by omega, fun hlt => ?_⟩
        rcases Nat.lt_or_ge (s.T e.a) (now + 1 - E.length + 1) with hc | hc
        · have := h.ed (now + 1 - E.length) (by omega) (by omega) (by omega) e (by
            have : (now + 1 - E.length - 1) % E.length = now % E.length := by
              obtain ⟨q, hq⟩ : ∃ q, now = q + E.length := ⟨now - E.length, by omega⟩
              rw [show now + 1 - E.length - 1 = q by omega, hq, Nat.add_mod_right]
            rw [this]; exact he) (by omega)
          omega
        · omega
      · refine ⟨by simp only [upd_other _ _ hxb]; have := hx.le; omega, fun hp => ?_⟩
        simp only [upd_other _ _ hxb] at hp
        obtain ⟨g, hg, hgb, hgf, hd, hT, hs, hr⟩ := hx.has hp
        refine ⟨g, ?_⟩
        simp only [upd_other _ _ hxb]
        by_cases hga : g.a = e.b
        · have hle := hx.le
          simp only [hga, upd_self] at hd hT hs hr ⊢
          exact ⟨hg, hgb, by omega, by omega, by omega, fun _ => by omega, fun _ => by omega⟩
        · simp only [upd_other _ _ hga]
          exact ⟨hg, hgb, hgf, hd, hT, hs, hr⟩
    · rcases Nat.lt_or_ge now τ with h4 | h4
      · have : τ = now + 1 := by omega
        subst this
        simp only [Nat.add_sub_cancel] at hg
        rw [he] at hg; cases hg
        simp only [upd_self, upd_other _ _ hne]; omega
      · by_cases hga : g.a = e.b
        · simp only [hga, upd_self] at ht; omega
        · simp only [upd_other _ _ hga] at ht ⊢
          have := h.ed τ h1 h4 (by omega) g hg ht
          by_cases hgb : g.b = e.b
          · simp only [hgb, upd_self] at this ⊢; omega
          · simp only [upd_other _ _ hgb]; exact this
  · rw [if_neg hf]
    refine ⟨fun x => ⟨Nat.le_succ_of_le (h.pt x).le, (h.pt x).has⟩, fun τ h1 h2 h3 g hg ht => ?_⟩
    rcases Nat.lt_or_ge now τ with h4 | h4
    · have : τ = now + 1 := by omega
      subst this
      simp only [Nat.add_sub_cancel] at hg
      rw [he] at hg; cases hg
      omega
    · exact h.ed τ h1 h4 (by omega) g hg ht

/-! ## Chains -/

def iter {α : Type} (f : α → α) : Nat → α → α
  | 0, x => x
  | k + 1, x => f (iter f k x)

/-- The weight of the edge by which a point was updated. -/
def wt (E : List Ed) (s : Sr) (x : Nat) : Int := match E[s.by_ x]? with | some e => e.w | none => 0

/-! ## The cycle as a closed walk -/

def edgeAt (E : List Ed) (k : Nat) : Ed := (E[k]?).getD ⟨0, 0, 0⟩

/-- The edges by which the points of the chain were updated, in the order of the walk. -/
def walked (E : List Ed) (s : Sr) (c : Nat) : Nat → List Ed
  | 0 => []
  | p + 1 => edgeAt E (s.by_ (iter s.fr p c)) :: walked E s c p

end Go.Kin.St

set_option linter.unusedSectionVars false
set_option linter.unusedVariables false
set_option linter.unusedSimpArgs false
/-! Networks: links and their steps. Plain Lean. -/
namespace Go.Kin.St

structure Lk where
  fr : Int
  to : Int
  lo : Int
  hi : Int
deriving DecidableEq

def up (x : Lk) : Ed := ⟨x.fr.toNat, x.to.toNat, x.hi⟩
def dn (x : Lk) : Ed := ⟨x.to.toNat, x.fr.toNat, - x.lo⟩

/-- The steps of a network, in the program's order. -/
def edges : List Lk → List Ed
  | [] => []
  | x :: l => up x :: dn x :: edges l

/-- ... and in the specification's order. -/
def edges' : List Lk → List Ed
  | [] => []
  | x :: l => dn x :: up x :: edges' l

theorem edges_mem {l : List Lk} {e : Ed} : e ∈ edges l ↔ ∃ x ∈ l, e = up x ∨ e = dn x := by
  induction l with
  | nil => simp [edges]
  | cons x l ih => simp only [edges, List.mem_cons, ih]; grind

/-- A link between points below `n`, with its numbers in their bounds. -/
def Lk.Fine (n : Int) (x : Lk) : Prop :=
  0 ≤ x.fr ∧ x.fr < n ∧ 0 ≤ x.to ∧ x.to < n ∧ x.fr ≠ x.to ∧ -1099511627776 ≤ x.lo ∧ x.lo ≤ x.hi ∧ x.hi ≤ 1099511627776

instance (n : Int) (x : Lk) : Decidable (x.Fine n) := by unfold Lk.Fine; exact inferInstance

def Fine (n : Int) (l : List Lk) : Prop := ∀ x ∈ l, x.Fine n

instance (n : Int) (l : List Lk) : Decidable (Fine n l) := by unfold Fine; exact inferInstance

theorem Fine.inE {n : Int} {l : List Lk} (h : Fine n l) : In n.toNat (edges l) := by
  intro e he
  obtain ⟨x, hx, rfl | rfl⟩ := edges_mem.1 he
  all_goals
    have := h x hx
    unfold Lk.Fine at this
    simp only [up, dn]; omega

end Go.Kin.St

set_option linter.unusedSectionVars false
set_option linter.unusedVariables false
set_option linter.unusedSimpArgs false
namespace Go.Kin.Ct
open Go.Kin.St
/-- a called link that is right by itself -/
def Cal (n : Int) (x : Lk) : Prop := 0 ≤ x.fr ∧ x.fr < n ∧ 0 ≤ x.to ∧ x.to < n ∧ x.fr ≠ x.to ∧ 0 ≤ x.lo ∧ x.lo ≤ x.hi ∧ x.hi ≤ 1099511627776
instance (n : Int) (x : Lk) : Decidable (Cal n x) := by unfold Cal; infer_instance
/-- the called link to a point -/
def into : List Lk → Int → Option Nat
  | [], _ => none
  | x :: C, p => if x.to = p then some 0 else (into C p).map (· + 1)
theorem into_some {C : List Lk} {p : Int} {i : Nat} : into C p = some i → ∃ x, C[i]? = some x ∧ x.to = p := by
  induction C generalizing i with
  | nil => intro h; cases h
  | cons x C ih =>
    intro h
    rw [into] at h
    split at h
    · rename_i e
      cases h
      exact ⟨x, rfl, e⟩
    · cases hj : into C p with
      | none => rw [hj] at h; cases h
      | some j =>
        rw [hj] at h
        cases h
        exact ih hj
theorem into_none {C : List Lk} {p : Int} (h : into C p = none) : ∀ x ∈ C, x.to ≠ p := by
  induction C with
  | nil => intro x hx; cases hx
  | cons y C ih =>
    rw [into] at h
    split at h
    · cases h
    · rename_i e
      intro x hx
      rcases List.mem_cons.1 hx with rfl | hx
      · exact e
      · cases hj : into C p with
        | none => exact ih hj x hx
        | some j => rw [hj] at h; cases h
theorem into_lt {C : List Lk} {p : Int} {i : Nat} (h : into C p = some i) : i < C.length := by
  obtain ⟨x, hx, _⟩ := into_some h
  exact (List.getElem?_eq_some_iff.1 hx).1
/-- where a called link begins -/
def frm (C : List Lk) (i : Nat) : Int := match C[i]? with | some x => x.fr | none => 0
/-- up to the root, in so many steps at most: the links passed, and the point that is reached -/
def climb (C : List Lk) : Nat → Int → List Nat × Int
  | 0, p => ([], p)
  | f + 1, p => match into C p with
    | none => ([], p)
    | some i => (i :: (climb C f (frm C i)).1, (climb C f (frm C i)).2)
theorem climb_none {C : List Lk} {p : Int} (h : into C p = none) : ∀ f, climb C f p = ([], p)
  | 0 => rfl
  | f + 1 => by rw [climb, h]
theorem climb_some {C : List Lk} {p : Int} {i : Nat} (h : into C p = some i) (f : Nat) : climb C (f + 1) p = (i :: (climb C f (frm C i)).1, (climb C f (frm C i)).2) := by rw [climb, h]
theorem climb_len (C : List Lk) : ∀ f p, (climb C f p).1.length ≤ f
  | 0, p => Nat.le_refl _
  | f + 1, p => by
    cases h : into C p with
    | none => rw [climb_none h]; exact Nat.zero_le _
    | some i => rw [climb_some h]; have := climb_len C f (frm C i); simp only [List.length_cons]; omega
theorem climb_stop {C : List Lk} : ∀ {f : Nat} {p : Int}, into C (climb C f p).2 = none → ∀ g, climb C (f + g) p = climb C f p
  | 0, p, h, g => climb_none h _
  | f + 1, p, h, g => by
    cases hi : into C p with
    | none => rw [climb_none hi, climb_none hi]
    | some i =>
      rw [climb_some hi] at h ⊢
      rw [show f + 1 + g = (f + g) + 1 by omega, climb_some hi, climb_stop (f := f) h g]
theorem climb_in {n : Int} {C : List Lk} (hC : ∀ x ∈ C, Cal n x) : ∀ (f : Nat) (p : Int), 0 ≤ p → p < n → 0 ≤ (climb C f p).2 ∧ (climb C f p).2 < n
  | 0, p, h0, h1 => ⟨h0, h1⟩
  | f + 1, p, h0, h1 => by
    cases hi : into C p with
    | none => rw [climb_none hi]; exact ⟨h0, h1⟩
    | some i =>
      rw [climb_some hi]
      obtain ⟨x, hx, _⟩ := into_some hi
      have hc := hC x (List.mem_of_getElem? hx)
      have hf : frm C i = x.fr := by unfold frm; rw [hx]
      exact climb_in hC f _ (by rw [hf]; exact hc.1) (by rw [hf]; exact hc.2.1)
theorem climb_mem {C : List Lk} : ∀ (f : Nat) (p : Int), ∀ i ∈ (climb C f p).1, i < C.length
  | 0, p, i, h => by cases h
  | f + 1, p, i, h => by
    cases hi : into C p with
    | none => rw [climb_none hi] at h; cases h
    | some j =>
      rw [climb_some hi] at h
      rcases List.mem_cons.1 h with rfl | h
      · exact into_lt hi
      · exact climb_mem f _ i h
/-- the called links are right -/
structure Tree (n : Nat) (C : List Lk) : Prop where
  cal : ∀ x ∈ C, Cal n x
  one : ∀ i x, C[i]? = some x → into C x.to = some i
  ends : ∀ p : Nat, p < n → into C (climb C n p).2 = none
/-- the links that lead to a point, the nearest one first, and its root -/
def chain (C : List Lk) (n : Nat) (p : Int) : List Nat := (climb C n p).1
def root (C : List Lk) (n : Nat) (p : Int) : Int := (climb C n p).2
theorem Tree.up {n : Nat} {C : List Lk} (h : Tree n C) {p : Nat} (hp : p < n) {i : Nat} (hi : into C p = some i) : ∃ q : Nat, q < n ∧ frm C i = q ∧ chain C n p = i :: chain C n q ∧ root C n p = root C n q := by
  obtain ⟨x, hx, hxp⟩ := into_some hi
  have hc := h.cal x (List.mem_of_getElem? hx)
  have hf : frm C i = x.fr := by unfold frm; rw [hx]
  have hc1 := hc.1
  have hc2 := hc.2.1
  refine ⟨x.fr.toNat, by omega, by rw [hf]; omega, ?_⟩
  have hq : ((x.fr.toNat : Nat) : Int) = frm C i := by rw [hf]; omega
  obtain ⟨f, rfl⟩ : ∃ f, n = f + 1 := ⟨n - 1, by omega⟩
  have he := h.ends p hp
  rw [climb_some hi] at he
  have hs := climb_stop he 1
  unfold chain root
  rw [climb_some hi, hq, hs]
  exact ⟨rfl, rfl⟩
theorem Tree.top {n : Nat} {C : List Lk} {p : Int} (hi : into C p = none) : chain C n p = [] ∧ root C n p = p := by
  unfold chain root
  rw [climb_none hi]
  exact ⟨rfl, rfl⟩
theorem Tree.root_in {n : Nat} {C : List Lk} (h : Tree n C) {p : Nat} (hp : p < n) : ∃ r : Nat, r < n ∧ root C n p = r ∧ into C (r : Int) = none := by
  have h1 := climb_in h.cal n p (by omega) (by omega)
  refine ⟨(root C n p).toNat, ?_, ?_, ?_⟩
  · unfold root; omega
  · unfold root; omega
  · have h2 := h.ends p hp
    have h3 : (((root C n p).toNat : Nat) : Int) = (climb C n p).2 := by unfold root; omega
    rw [h3]; exact h2
/-- links further up end in points that are less deep -/
theorem Tree.deep {n : Nat} {C : List Lk} (h : Tree n C) : ∀ (k : Nat) {p : Nat}, p < n → (chain C n p).length = k → ∀ i ∈ chain C n p, ∃ q : Nat, q < n ∧ into C q = some i ∧ (chain C n q).length ≤ k
  | 0, p, hp, hk, i, hi => by rw [List.length_eq_zero_iff.1 hk] at hi; cases hi
  | k + 1, p, hp, hk, i, hi => by
    cases hin : into C p with
    | none => rw [(Tree.top hin).1] at hi; cases hi
    | some j =>
      obtain ⟨q, hq, hf, hc, hr⟩ := h.up hp hin
      rw [hc] at hi
      rcases List.mem_cons.1 hi with rfl | hi
      · exact ⟨p, hp, hin, by omega⟩
      · obtain ⟨r, h1, h2, h3⟩ := h.deep k hq (by rw [hc] at hk; simpa using hk) i hi
        exact ⟨r, h1, h2, by omega⟩
theorem Tree.nodup {n : Nat} {C : List Lk} (h : Tree n C) : ∀ (k : Nat) {p : Nat}, p < n → (chain C n p).length = k → (chain C n p).Nodup
  | 0, p, hp, hk => by rw [List.length_eq_zero_iff.1 hk]; exact List.nodup_nil
  | k + 1, p, hp, hk => by
    cases hin : into C p with
    | none => rw [(Tree.top hin).1]; exact List.nodup_nil
    | some j =>
      obtain ⟨q, hq, hf, hc, hr⟩ := h.up hp hin
      have hk2 : (chain C n q).length = k := by rw [hc] at hk; simpa using hk
      rw [hc]
      refine List.nodup_cons.2 ⟨fun hm => ?_, h.nodup k hq hk2⟩
      obtain ⟨r, h1, h2, h3⟩ := h.deep k hq hk2 j hm
      obtain ⟨x, hx, hxr⟩ := into_some h2
      obtain ⟨y, hy, hyp⟩ := into_some hin
      rw [hx] at hy
      cases hy
      have : r = p := by omega
      subst this
      omega
/-! ## Sums -/
def lsum (f : Nat → Int) : List Nat → Int
  | [] => 0
  | i :: l => f i + lsum f l
theorem lsum_app (f : Nat → Int) : ∀ l m, lsum f (l ++ m) = lsum f l + lsum f m
  | [], m => by show lsum f m = 0 + _; omega
  | i :: l, m => by rw [List.cons_append, lsum, lsum, lsum_app f l m]; omega
/-! ## Gaps -/
def hiOf (C : List Lk) (i : Nat) : Int := match C[i]? with | some x => x.hi | none => 0
def loOf (C : List Lk) (i : Nat) : Int := match C[i]? with | some x => x.lo | none => 0
/-- the time of a point, with durations -/
def at_ (C : List Lk) (n : Nat) (t d : Nat → Int) (p : Int) : Int := t (root C n p).toNat + lsum d (chain C n p)
theorem cal_of {n : Nat} {C : List Lk} (h : Tree n C) {i : Nat} (hi : i < C.length) : 0 ≤ loOf C i ∧ loOf C i ≤ hiOf C i ∧ hiOf C i ≤ 1099511627776 := by
  have hx := List.getElem?_eq_getElem hi
  have hc := h.cal _ (List.getElem_mem hi)
  unfold loOf hiOf
  rw [hx]
  exact ⟨hc.2.2.2.2.2.1, hc.2.2.2.2.2.2.1, hc.2.2.2.2.2.2.2⟩
end Go.Kin.Ct

set_option linter.unusedSectionVars false
set_option linter.unusedVariables false
set_option linter.unusedSimpArgs false
namespace Go.Kin.Sg
open Go.Kin.St Go.Kin.Ct
/-- a game: points, the last tick, links, called links -/
structure Gm where
  n : Nat
  T : Nat
  L : List Lk
  C : List Lk
/-- what is known of a point -/
def kn (l : List Int) (q : Nat) : Int := l.getD q 0
theorem kn_get {l : List Int} {q : Nat} {x : Int} (h : l[q]? = some x) : kn l q = x := by unfold kn; rw [List.getD_eq_getElem?_getD, h]; rfl
theorem kn_at {l : List Int} {q : Nat} (h : q < l.length) : l[q]? = some (kn l q) := by
  have := List.getElem?_eq_getElem h
  rw [this, kn_get this]
theorem kn_over {l : List Int} {q : Nat} (h : l.length ≤ q) : kn l q = 0 := by unfold kn; rw [List.getD_eq_getElem?_getD, List.getElem?_eq_none h]; rfl
theorem kn_ext {l m : List Int} (h : l.length = m.length) (h2 : ∀ q, q < l.length → kn l q = kn m q) : l = m := by
  apply List.ext_getElem?
  intro i
  by_cases hi : i < l.length
  · rw [kn_at hi, kn_at (by omega), h2 i hi]
  · rw [List.getElem?_eq_none (by omega), List.getElem?_eq_none (by omega)]
/-- points occur -/
def put (l : List Int) (S : List Nat) (v : Int) : List Int := S.foldl (fun l q => l.set q v) l
theorem put_len {v : Int} : ∀ {S : List Nat} {l : List Int}, (put l S v).length = l.length
  | [], _ => rfl
  | q :: S, l => by
    show (put (l.set q v) S v).length = _
    rw [put_len, List.length_set]
theorem kn_set {l : List Int} {q p : Nat} {v : Int} (hp : p < l.length) : kn (l.set q v) p = if p = q then v else kn l p := by
  by_cases h : p = q
  · subst h
    rw [if_pos rfl]
    exact kn_get (by rw [List.getElem?_set]; simp [hp])
  · rw [if_neg h]
    unfold kn
    rw [List.getD_eq_getElem?_getD, List.getD_eq_getElem?_getD, List.getElem?_set_ne (Ne.symm h)]
theorem put_kn {v : Int} {p : Nat} : ∀ {S : List Nat} {l : List Int}, p < l.length → kn (put l S v) p = if p ∈ S then v else kn l p
  | [], l, _ => by simp [put]
  | q :: S, l, hp => by
    show kn (put (l.set q v) S v) p = _
    rw [put_kn (by rw [List.length_set]; exact hp), kn_set hp]
    by_cases h1 : p ∈ S
    · rw [if_pos h1, if_pos (List.mem_cons_of_mem _ h1)]
    · rw [if_neg h1]
      by_cases h2 : p = q
      · rw [if_pos h2, if_pos (by rw [h2]; exact List.mem_cons_self)]
      · rw [if_neg h2, if_neg (by simp [h1, h2])]
/-- putting depends on which points there are alone -/
theorem put_congr {l : List Int} {S S' : List Nat} {v : Int} (h : ∀ p, p ∈ S ↔ p ∈ S') : put l S v = put l S' v := kn_ext (by rw [put_len, put_len]) fun q hq => by
  rw [put_len] at hq
  rw [put_kn hq, put_kn hq]
  by_cases hm : q ∈ S
  · rw [if_pos hm, if_pos ((h q).1 hm)]
  · rw [if_neg hm, if_neg (fun g => hm ((h q).2 g))]
/-! ## What may occur -/
def lnk (C : List Lk) (q : Nat) : Option Lk := (into C q).bind fun i => C[i]?
/-- how long a called point has waited, and its link -/
def wtF (C : List Lk) (k : Int) (f : Nat → Int) (q : Nat) : Option (Int × Lk) := match lnk C q with
  | some x => if f q = 0 ∧ f x.fr.toNat ≠ 0 then some (k + 1 - f x.fr.toNat, x) else none
  | none => none
def mayF (C : List Lk) (k : Int) (f : Nat → Int) (q : Nat) : Bool := match wtF C k f q with
  | some (m, x) => decide (x.lo ≤ m) && decide (m ≤ x.hi)
  | none => false
def dueF (C : List Lk) (k : Int) (f : Nat → Int) (q : Nat) : Bool := match wtF C k f q with
  | some (m, x) => decide (x.lo ≤ m) && decide (m = x.hi)
  | none => false
def mayB (G : Gm) (k : Nat) (l : List Int) (q : Nat) : Bool := mayF G.C k (kn l) q
def dueB (G : Gm) (k : Nat) (l : List Int) (q : Nat) : Bool := dueF G.C k (kn l) q
theorem due_mayB {G : Gm} {k : Nat} {l : List Int} {q : Nat} (h : dueB G k l q = true) : mayB G k l q = true := by
  unfold dueB dueF at h
  unfold mayB mayF
  cases hw : wtF G.C k (kn l) q with
  | none => rw [hw] at h; cases h
  | some p =>
    obtain ⟨m, x⟩ := p
    rw [hw] at h
    simp only [Bool.and_eq_true, decide_eq_true_eq] at h ⊢
    omega
def may (G : Gm) (k : Nat) (l : List Int) : List Nat := (List.range G.n).filter (mayB G k l)
def due (G : Gm) (k : Nat) (l : List Int) : List Nat := (List.range G.n).filter (dueB G k l)
def free (G : Gm) (l : List Int) : List Nat := (List.range G.n).filter fun q => (into G.C q).isNone && decide (kn l q = 0)
theorem due_may {G : Gm} {k : Nat} {l : List Int} {q : Nat} (h : q ∈ due G k l) : q ∈ may G k l := by
  unfold due at h
  unfold may
  rw [List.mem_filter] at h ⊢
  exact ⟨h.1, due_mayB h.2⟩
theorem free_mem {G : Gm} {l : List Int} {q : Nat} : q ∈ free G l ↔ q < G.n ∧ into G.C q = none ∧ kn l q = 0 := by
  unfold free
  rw [List.mem_filter, List.mem_range, Bool.and_eq_true, decide_eq_true_eq, Option.isNone_iff_eq_none]
theorem may_lt {G : Gm} {k : Nat} {l : List Int} {q : Nat} (h : q ∈ may G k l) : q < G.n := List.mem_range.1 (List.mem_filter.1 h).1
theorem range_inc (n : Nat) : (List.range n).Pairwise (· < ·) := List.pairwise_lt_range
theorem may_inc (G : Gm) (k : Nat) (l : List Int) : (may G k l).Pairwise (· < ·) := (range_inc _).filter _
theorem due_inc (G : Gm) (k : Nat) (l : List Int) : (due G k l).Pairwise (· < ·) := (range_inc _).filter _
theorem free_inc (G : Gm) (l : List Int) : (free G l).Pairwise (· < ·) := (range_inc _).filter _
/-! ## Who wins -/
/-- all points have occurred, at ticks that are a schedule -/
def keptP (G : Gm) (l : List Int) : Prop := (∀ q, q < G.n → kn l q ≠ 0) ∧ ∀ x ∈ G.L, x.lo ≤ kn l x.to.toNat - kn l x.fr.toNat ∧ kn l x.to.toNat - kn l x.fr.toNat ≤ x.hi
/-- what the others may choose -/
def Ch (G : Gm) (k : Nat) (l : List Int) (S : List Nat) : Prop := List.Sublist S (may G k l) ∧ ∀ x ∈ due G k l, x ∈ S
/-- the desk wins, with so many ticks to come -/
def V (G : Gm) : Nat → Nat → List Int → Prop
  | 0, _, l => keptP G l
  | f + 1, k, l => ∀ S, Ch G k l S → ∃ D, List.Sublist D (free G (put l S (k + 1))) ∧ V G f (k + 1) (put (put l S (k + 1)) D (k + 1))
/-- a strategy, by ticks and what is known -/
abbrev Tab := Nat → List Int → Option (List Nat)
def doD (t : Tab) (k : Nat) (l : List Int) : List Nat := (t k l).getD []
def doS (G : Gm) (t : Tab) (k : Nat) (l : List Int) : List Nat := (t k l).getD (due G k l)
/-- a strategy of the desk wins -/
def Wn (G : Gm) (t : Tab) : Nat → Nat → List Int → Prop
  | 0, _, l => keptP G l
  | f + 1, k, l => ∀ S, Ch G k l S → (∀ x ∈ doD t k (put l S (k + 1)), x ∈ free G (put l S (k + 1))) ∧ Wn G t f (k + 1) (put (put l S (k + 1)) (doD t k (put l S (k + 1))) (k + 1))
/-- a strategy of the others spoils -/
def Sp (G : Gm) (t : Tab) : Nat → Nat → List Int → Prop
  | 0, _, l => ¬ keptP G l
  | f + 1, k, l => (∀ x ∈ doS G t k l, x ∈ may G k l) ∧ (∀ x ∈ due G k l, x ∈ doS G t k l) ∧
      ∀ D, List.Sublist D (free G (put l (doS G t k l) (k + 1))) → Sp G t f (k + 1) (put (put l (doS G t k l) (k + 1)) D (k + 1))
/-- its sets are increasing -/
def Inc (t : Tab) : Prop := ∀ k l S, t k l = some S → S.Pairwise (· < ·)
theorem doD_inc {t : Tab} (h : Inc t) (k : Nat) (l : List Int) : (doD t k l).Pairwise (· < ·) := by
  unfold doD
  cases ht : t k l with
  | none => exact List.Pairwise.nil
  | some S => exact h k l S ht
theorem doS_inc {G : Gm} {t : Tab} (h : Inc t) (k : Nat) (l : List Int) : (doS G t k l).Pairwise (· < ·) := by
  unfold doS
  cases ht : t k l with
  | none => exact due_inc G k l
  | some S => exact h k l S ht
/-! ## Strategies that are read off the values -/
/-- positions that a strategy of the desk meets, ahead of the tick -/
inductive RD (G : Gm) (g : Nat → List Int → List Nat) : Nat → List Int → Prop
  | start : RD G g 0 (List.replicate G.n 0)
  | step {k : Nat} {l : List Int} {S : List Nat} (h : RD G g k l) (hk : k ≤ G.T) (hS : Ch G k l S) : RD G g (k + 1) (put (put l S (k + 1)) (g k (put l S (k + 1))) (k + 1))
theorem Wn_of {G : Gm} {t : Tab} {g : Nat → List Int → List Nat} (hg : ∀ k l f S, k + f = G.T → RD G g k l → Ch G k l S → V G (f + 1) k l → List.Sublist (g k (put l S (k + 1))) (free G (put l S (k + 1))) ∧ V G f (k + 1) (put (put l S (k + 1)) (g k (put l S (k + 1))) (k + 1)))
    (ht : ∀ k l S, k ≤ G.T → RD G g k l → Ch G k l S → doD t k (put l S (k + 1)) = g k (put l S (k + 1))) : ∀ (f k : Nat) (l : List Int), k + f = G.T + 1 → RD G g k l → V G f k l → Wn G t f k l
  | 0, _, _, _, _, hv => hv
  | f + 1, k, l, hk, hr, hv => fun S hS => by
    obtain ⟨h1, h2⟩ := hg k l f S (by omega) hr hS hv
    have h3 := ht k l S (by omega) hr hS
    rw [h3]
    exact ⟨fun x hx => h1.subset hx, Wn_of hg ht f (k + 1) _ (by omega) (.step hr (by omega) hS) h2⟩
/-- positions that a strategy of the others meets -/
inductive RS (G : Gm) (g : Nat → List Int → List Nat) : Nat → List Int → Prop
  | start : RS G g 0 (List.replicate G.n 0)
  | step {k : Nat} {l : List Int} {D : List Nat} (h : RS G g k l) (hk : k ≤ G.T) (hD : List.Sublist D (free G (put l (g k l) (k + 1)))) : RS G g (k + 1) (put (put l (g k l) (k + 1)) D (k + 1))
theorem Sp_of {G : Gm} {t : Tab} {g : Nat → List Int → List Nat} (hg : ∀ k l f, k + f = G.T → RS G g k l → ¬ V G (f + 1) k l → Ch G k l (g k l) ∧ ∀ D, List.Sublist D (free G (put l (g k l) (k + 1))) → ¬ V G f (k + 1) (put (put l (g k l) (k + 1)) D (k + 1)))
    (ht : ∀ k l, k ≤ G.T → RS G g k l → doS G t k l = g k l) : ∀ (f k : Nat) (l : List Int), k + f = G.T + 1 → RS G g k l → ¬ V G f k l → Sp G t f k l
  | 0, _, _, _, _, hv => hv
  | f + 1, k, l, hk, hr, hv => by
    obtain ⟨h1, h2⟩ := hg k l f (by omega) hr hv
    have h3 := ht k l (by omega) hr
    unfold Sp
    rw [h3]
    exact ⟨fun x hx => h1.1.subset hx, h1.2, fun D hD => Sp_of hg ht f (k + 1) _ (by omega) (.step hr (by omega) hD) (h2 D hD)⟩
end Go.Kin.Sg
