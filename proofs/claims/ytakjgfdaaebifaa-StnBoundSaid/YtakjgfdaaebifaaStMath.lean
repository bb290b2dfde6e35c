/-! Difference constraints: the least schedule, and why n rounds reach it. Plain Lean. -/
set_option linter.unusedSectionVars false
set_option linter.unusedVariables false
set_option linter.unusedSimpArgs false
namespace Go.Kin.St

/-- The time of `b` less that of `a` is at most `w`. -/
structure Ed where
  a : Nat
  b : Nat
  w : Int

def upd {α : Type} (t : Nat → α) (i : Nat) (v : α) : Nat → α := fun x => if x = i then v else t x

theorem upd_self {α : Type} (t : Nat → α) (i : Nat) (v : α) : upd t i v i = v := by simp [upd]
theorem upd_other {α : Type} (t : Nat → α) {i x : Nat} (v : α) (h : x ≠ i) : upd t i v x = t x := by simp [upd, h]

/-- All constraints are kept. -/
def Sol (E : List Ed) (t : Nat → Int) : Prop := ∀ e ∈ E, t e.b - t e.a ≤ e.w

/-- All edges are between points below `n`. -/
def In (n : Nat) (E : List Ed) : Prop := ∀ e ∈ E, e.a < n ∧ e.b < n

def raise (t : Nat → Int) (e : Ed) : Nat → Int := upd t e.a (max (t e.a) (t e.b - e.w))

def pass (E : List Ed) (t : Nat → Int) : Nat → Int := E.foldl raise t

/-! ## Sums and counts below n -/

def sum : Nat → (Nat → Int) → Int
  | 0, _ => 0
  | n + 1, f => sum n f + f n

theorem sum_le {n : Nat} {f g : Nat → Int} (h : ∀ x, x < n → f x ≤ g x) : sum n f ≤ sum n g := by
  induction n with
  | zero => simp [sum]
  | succ n ih =>
    have h1 := ih (fun x hx => h x (by omega))
    have h2 := h n (by omega)
    simp only [sum]; omega

theorem sum_lt {n : Nat} {f g : Nat → Int} (h : ∀ x, x < n → f x ≤ g x) {y : Nat} (hy : y < n) (hl : f y < g y) :
    sum n f < sum n g := by
  induction n with
  | zero => omega
  | succ n ih =>
    simp only [sum]
    rcases Nat.lt_or_ge y n with h0 | h0
    · have h1 := ih (fun x hx => h x (by omega)) h0
      have h2 := h n (by omega); omega
    · have : y = n := by omega
      subst this
      have h1 := sum_le (n := y) (f := f) (g := g) (fun x hx => h x (by omega))
      omega

theorem sum_nonneg {n : Nat} {f : Nat → Int} (h : ∀ x, x < n → 0 ≤ f x) : 0 ≤ sum n f := by
  induction n with
  | zero => simp [sum]
  | succ n ih =>
    have h1 := ih (fun x hx => h x (by omega))
    have h2 := h n (by omega)
    simp only [sum]; omega

noncomputable def cnt : Nat → (Nat → Prop) → Nat
  | 0, _ => 0
  | n + 1, p => cnt n p + (open Classical in if p n then 1 else 0)

theorem cnt_le (n : Nat) (p : Nat → Prop) : cnt n p ≤ n := by
  induction n with
  | zero => simp [cnt]
  | succ n ih => simp only [cnt]; split <;> omega

theorem cnt_mono {n : Nat} {p q : Nat → Prop} (h : ∀ x, x < n → p x → q x) : cnt n p ≤ cnt n q := by
  induction n with
  | zero => simp [cnt]
  | succ n ih =>
    have h1 := ih (fun x hx => h x (by omega))
    have h2 := h n (by omega)
    simp only [cnt]
    by_cases hp : p n
    · simp only [hp, h2 hp, if_true]; omega
    · simp only [hp, if_false]; omega

theorem cnt_lt {n : Nat} {p q : Nat → Prop} (h : ∀ x, x < n → p x → q x) {y : Nat} (hy : y < n) (hp : ¬ p y) (hq : q y) :
    cnt n p < cnt n q := by
  induction n with
  | zero => omega
  | succ n ih =>
    simp only [cnt]
    rcases Nat.lt_or_ge y n with h0 | h0
    · have h1 := ih (fun x hx => h x (by omega)) h0
      have h2 := h n (by omega)
      by_cases hp : p n
      · simp only [hp, h2 hp, if_true]; omega
      · simp only [hp, if_false]; omega
    · have : y = n := by omega
      subst this
      have h1 := cnt_mono (n := y) (p := p) (q := q) (fun x hx => h x (by omega))
      simp only [hp, hq, if_true, if_false]; omega

theorem cnt_all {n : Nat} {p : Nat → Prop} (h : n ≤ cnt n p) : ∀ x, x < n → p x := by
  induction n with
  | zero => omega
  | succ n ih =>
    simp only [cnt] at h
    have h1 := cnt_le n p
    by_cases hp : p n
    · intro x hx
      rcases Nat.lt_or_ge x n with h0 | h0
      · simp only [hp, if_true] at h
        exact ih (by omega) x h0
      · have : x = n := by omega
        subst this; exact hp
    · simp only [hp, if_false] at h; omega

/-! ## The least schedule -/

theorem sol_min {E : List Ed} {s u : Nat → Int} (hs : Sol E s) (hu : Sol E u) : Sol E (fun x => min (s x) (u x)) := by
  intro e he
  have h1 := hs e he
  have h2 := hu e he
  simp only; omega

theorem sol_shift {E : List Ed} {s : Nat → Int} (hs : Sol E s) (k : Int) : Sol E (fun x => s x + k) := by
  intro e he
  have h1 := hs e he
  simp only; omega

/-- `L` is the least schedule that is nowhere below `I`. -/
structure Least (n : Nat) (E : List Ed) (I L : Nat → Int) : Prop where
  sol : Sol E L
  pos : ∀ x, x < n → I x ≤ L x
  le : ∀ s, Sol E s → (∀ x, x < n → I x ≤ s x) → ∀ x, x < n → L x ≤ s x

theorem least_exists {n : Nat} {E : List Ed} {I s : Nat → Int} (hs : Sol E s) (hp : ∀ x, x < n → I x ≤ s x) :
    ∃ L, Least n E I L := by
  have key : ∀ k : Nat, ∀ s, Sol E s → (∀ x, x < n → I x ≤ s x) → sum n (fun x => s x - I x) ≤ k → ∃ L, Least n E I L := by
    intro k
    induction k with
    | zero =>
      intro s hs hp hk
      refine ⟨s, hs, hp, fun u hu hq x hx => ?_⟩
      rcases Int.lt_or_le (u x) (s x) with h | h
      · have := sum_lt (n := n) (f := fun y => min (s y) (u y) - I y) (g := fun y => s y - I y) (fun y _ => by show min (s y) (u y) - I y ≤ s y - I y; omega) hx (by show min (s x) (u x) - I x < s x - I x; omega)
        have h2 := sum_nonneg (n := n) (f := fun y => min (s y) (u y) - I y) (fun y hy => by have := hp y hy; have := hq y hy; show 0 ≤ min (s y) (u y) - I y; omega)
        omega
      · exact h
    | succ k ih =>
      intro s hs hp hk
      by_cases hl : ∀ u, Sol E u → (∀ x, x < n → I x ≤ u x) → ∀ x, x < n → s x ≤ u x
      · exact ⟨s, hs, hp, hl⟩
      · have ⟨u, hu, hq, x, hx, h⟩ : ∃ u, Sol E u ∧ (∀ x, x < n → I x ≤ u x) ∧ ∃ x, x < n ∧ ¬ s x ≤ u x := by
          apply Classical.byContradiction
          intro hn
          apply hl
          intro u hu hq x hx
          apply Classical.byContradiction
          intro h
          exact hn ⟨u, hu, hq, x, hx, h⟩
        refine ih (fun y => min (s y) (u y)) (sol_min hs hu) (fun y hy => by have := hp y hy; have := hq y hy; show I y ≤ min (s y) (u y); omega) ?_
        have := sum_lt (n := n) (f := fun y => min (s y) (u y) - I y) (g := fun y => s y - I y) (fun y _ => by show min (s y) (u y) - I y ≤ s y - I y; omega) hx (by show min (s x) (u x) - I x < s x - I x; omega)
        omega
  refine key (sum n (fun x => s x - I x)).toNat s hs hp ?_
  have := sum_nonneg (n := n) (f := fun x => s x - I x) (fun x hx => by have := hp x hx; show 0 ≤ s x - I x; omega)
  omega

theorem Least.uniq {n : Nat} {E : List Ed} {I L M : Nat → Int} (h : Least n E I L) (g : Least n E I M) : ∀ x, x < n → L x = M x :=
  fun x hx => Int.le_antisymm (h.le M g.sol g.pos x hx) (g.le L h.sol h.pos x hx)

/-- Only the set of edges counts. -/
theorem sol_congr {E F : List Ed} (h : ∀ e, e ∈ E ↔ e ∈ F) (t : Nat → Int) : Sol E t ↔ Sol F t :=
  ⟨fun g e he => g e ((h e).2 he), fun g e he => g e ((h e).1 he)⟩

theorem Least.congr {n : Nat} {E F : List Ed} (h : ∀ e, e ∈ E ↔ e ∈ F) {I L : Nat → Int} (g : Least n E I L) : Least n F I L :=
  ⟨(sol_congr h L).1 g.sol, g.pos, fun s hs => g.le s ((sol_congr h s).2 hs)⟩

/-! ## Passes -/

theorem raise_ge (t : Nat → Int) (e : Ed) (x : Nat) : t x ≤ raise t e x := by
  unfold raise upd
  split
  · rename_i h; subst h; omega
  · omega

theorem pass_ge (E : List Ed) (t : Nat → Int) (x : Nat) : t x ≤ pass E t x := by
  induction E generalizing t with
  | nil => simp [pass]
  | cons e E ih => exact Int.le_trans (raise_ge t e x) (ih (raise t e))

theorem raise_le {n : Nat} {e : Ed} {t s : Nat → Int} (hb : e.b < n) (hs : s e.b - s e.a ≤ e.w) (h : ∀ x, x < n → t x ≤ s x) :
    ∀ x, x < n → raise t e x ≤ s x := by
  intro x hx
  unfold raise upd
  split
  · rename_i hxa; subst hxa
    have h1 := h e.b hb
    have h2 := h e.a hx
    omega
  · exact h x hx

theorem pass_le {n : Nat} {E : List Ed} (hE : In n E) {t s : Nat → Int} (hs : Sol E s) (h : ∀ x, x < n → t x ≤ s x) :
    ∀ x, x < n → pass E t x ≤ s x := by
  induction E generalizing t with
  | nil => simpa [pass] using h
  | cons e E ih =>
    exact ih (fun e he => hE e (List.mem_cons_of_mem _ he)) (fun e he => hs e (List.mem_cons_of_mem _ he))
      (raise_le (hE e List.mem_cons_self).2 (hs e List.mem_cons_self) h)

theorem pass_kept {E : List Ed} {t : Nat → Int} (h : Sol E t) : pass E t = t := by
  induction E with
  | nil => rfl
  | cons e E ih =>
    have h1 : raise t e = t := by
      funext x
      have := h e List.mem_cons_self
      unfold raise upd
      split
      · rename_i hx; subst hx; omega
      · rfl
    show E.foldl raise (raise t e) = t
    rw [h1]
    exact ih (fun e he => h e (List.mem_cons_of_mem _ he))

/-- What an edge asks of the start is there after the pass. -/
theorem pass_edge {E : List Ed} (t : Nat → Int) {e : Ed} (he : e ∈ E) : t e.b - e.w ≤ pass E t e.a := by
  induction E generalizing t with
  | nil => cases he
  | cons f E ih =>
    rcases List.mem_cons.1 he with h | h
    · subst h
      refine Int.le_trans ?_ (pass_ge E (raise t e) e.a)
      simp only [raise, upd, if_true]; omega
    · have h1 := ih (raise t f) h
      have h2 := raise_ge t f e.b
      show _ ≤ pass E (raise t f) e.a
      omega

/-- A pass makes a further time final. -/
theorem pass_grows {n : Nat} {E : List Ed} (hE : In n E) {I L t : Nat → Int} (hL : Least n E I L)
    (h0 : ∀ x, x < n → I x ≤ t x) (hl : ∀ x, x < n → t x ≤ L x) {y : Nat} (hy : y < n) (hn : t y ≠ L y) :
    cnt n (fun x => t x = L x) < cnt n (fun x => pass E t x = L x) := by
  have hkeep : ∀ x, x < n → t x = L x → pass E t x = L x := fun x hx h => by
    have h1 := pass_ge E t x
    have h2 := pass_le hE hL.sol hl x hx
    omega
  let M : Nat → Int := fun x => open Classical in if t x = L x then L x else L x - 1
  have hM : ¬ Sol E M := fun hs => by
    have := hL.le M hs (fun x hx => by
      have h1 := h0 x hx; have h2 := hl x hx
      simp only [M]; split <;> omega) y hy
    simp only [M, hn, if_false] at this
    omega
  have ⟨e, he, hv⟩ : ∃ e ∈ E, ¬ (M e.b - M e.a ≤ e.w) := by
    apply Classical.byContradiction
    intro hh
    apply hM
    intro e he
    apply Classical.byContradiction
    intro h
    exact hh ⟨e, he, h⟩
  have hs := hL.sol e he
  have hi := hE e he
  have ha : ¬ t e.a = L e.a := fun h => by
    simp only [M, h, if_true] at hv
    split at hv <;> omega
  have hb : t e.b = L e.b := by
    apply Classical.byContradiction
    intro h
    simp only [M, ha, h, if_false] at hv
    omega
  simp only [M, ha, hb, if_true, if_false] at hv
  refine cnt_lt hkeep hi.1 ha ?_
  have h1 := pass_edge t he
  have h2 := pass_le hE hL.sol hl e.a hi.1
  omega

def passes (E : List Ed) : Nat → (Nat → Int) → (Nat → Int)
  | 0, t => t
  | k + 1, t => pass E (passes E k t)

theorem passes_ge (E : List Ed) (k : Nat) (I : Nat → Int) (x : Nat) : I x ≤ passes E k I x := by
  induction k with
  | zero => exact Int.le_refl _
  | succ k ih => exact Int.le_trans ih (pass_ge _ _ _)

theorem passes_le {n : Nat} {E : List Ed} (hE : In n E) {I s : Nat → Int} (hs : Sol E s) (hp : ∀ x, x < n → I x ≤ s x) (k : Nat) :
    ∀ x, x < n → passes E k I x ≤ s x := by
  induction k with
  | zero => exact hp
  | succ k ih => exact pass_le hE hs ih

theorem passes_grow {n : Nat} {E : List Ed} (hE : In n E) {I L : Nat → Int} (hL : Least n E I L) (k : Nat) :
    min k n ≤ cnt n (fun x => passes E k I x = L x) := by
  induction k with
  | zero => simp
  | succ k hc =>
    have h0 : ∀ x, x < n → I x ≤ passes E k I x := fun x _ => passes_ge E k I x
    have hl := passes_le hE hL.sol hL.pos k
    by_cases hall : ∀ x, x < n → passes E k I x = L x
    · have : n ≤ cnt n (fun x => passes E (k+1) I x = L x) := by
        have hk : ∀ m, m ≤ n → m ≤ cnt m (fun x => passes E (k+1) I x = L x) := by
          intro m
          induction m with
          | zero => intro _; exact Nat.zero_le _
          | succ m ihm =>
            intro hm
            have h1 := ihm (by omega)
            have h2 : passes E (k+1) I m = L m := by
              have h3 := hall m (by omega)
              have h4 := pass_ge E (passes E k I) m
              have h5 := pass_le hE hL.sol hl m (by omega)
              show pass E (passes E k I) m = L m
              omega
            simp only [cnt, h2, if_true]; omega
        exact hk n (Nat.le_refl n)
      omega
    · have ⟨y, hy, hn⟩ : ∃ y, y < n ∧ passes E k I y ≠ L y := by
        apply Classical.byContradiction
        intro hh
        apply hall
        intro x hx
        apply Classical.byContradiction
        intro h
        exact hh ⟨x, hx, h⟩
      have := pass_grows hE hL h0 hl hy hn
      have hs : cnt n (fun x => pass E (passes E k I) x = L x) = cnt n (fun x => passes E (k+1) I x = L x) := rfl
      omega

/-- After n passes the least schedule is reached. -/
theorem passes_least {n : Nat} {E : List Ed} (hE : In n E) {I L : Nat → Int} (hL : Least n E I L) {k : Nat} (hk : n ≤ k) :
    ∀ x, x < n → passes E k I x = L x := by
  have h := passes_grow hE hL k
  exact cnt_all (by omega)

theorem passes_sol {n : Nat} {E : List Ed} (hE : In n E) {I s : Nat → Int} (hs : Sol E s) (hp : ∀ x, x < n → I x ≤ s x)
    {k : Nat} (hk : n ≤ k) : Sol E (passes E k I) := by
  obtain ⟨L, hL⟩ := least_exists hs hp
  have h := passes_least hE hL hk
  intro e he
  have h1 := hL.sol e he
  have h2 := hE e he
  rw [h e.a h2.1, h e.b h2.2]; exact h1

/-- Whatever pass keeps all constraints is the least schedule. -/
theorem sol_least {n : Nat} {E : List Ed} (hE : In n E) {I : Nat → Int} {k : Nat} (h : Sol E (passes E k I)) :
    Least n E I (passes E k I) :=
  ⟨h, fun x _ => passes_ge E k I x, fun _ hs hp => passes_le hE hs hp k⟩

/-- A schedule, raised far enough, is nowhere below. -/
theorem lift (n : Nat) (I s : Nat → Int) : ∃ k : Int, ∀ x, x < n → I x ≤ s x + k := by
  induction n with
  | zero => exact ⟨0, fun x h => by omega⟩
  | succ n ih =>
    obtain ⟨k, hk⟩ := ih
    refine ⟨max k (I n - s n), fun x hx => ?_⟩
    rcases Nat.lt_or_ge x n with h | h
    · have := hk x h; omega
    · have : x = n := by omega
      subst this; omega

/-- If n passes do not suffice, nothing is a schedule. -/
theorem none_sol {n : Nat} {E : List Ed} (hE : In n E) {I : Nat → Int} {k : Nat} (hk : n ≤ k) (h : ¬ Sol E (passes E k I)) (s : Nat → Int) :
    ¬ Sol E s := fun hs => by
  obtain ⟨c, hc⟩ := lift n I s
  exact h (passes_sol hE (sol_shift hs c) hc hk)

/-! ## The first pass that keeps all -/

/-- What the loop of rounds returns: the first of the passes that keeps all, if there is one among `k`. -/
noncomputable def found (E : List Ed) : Nat → (Nat → Int) → Option (Nat → Int)
  | 0, _ => none
  | k + 1, t => open Classical in if Sol E t then some t else found E k (pass E t)

theorem passes_pass (E : List Ed) (k : Nat) (t : Nat → Int) : passes E k (pass E t) = pass E (passes E k t) := by
  induction k with
  | zero => rfl
  | succ k ih => simp only [passes, ih]

theorem found_some {E : List Ed} {k : Nat} {I t : Nat → Int} (h : found E k I = some t) : Sol E t ∧ ∃ j, t = passes E j I := by
  induction k generalizing I with
  | zero => cases h
  | succ k ih =>
    simp only [found] at h
    by_cases hs : Sol E I
    · rw [if_pos hs] at h
      cases h
      exact ⟨hs, 0, rfl⟩
    · rw [if_neg hs] at h
      obtain ⟨h1, j, h2⟩ := ih h
      exact ⟨h1, j + 1, by rw [h2, passes_pass]; rfl⟩

theorem found_none {E : List Ed} {k : Nat} {I : Nat → Int} (h : found E k I = none) : ∀ j, j < k → ¬ Sol E (passes E j I) := by
  induction k generalizing I with
  | zero => intro j hj; omega
  | succ k ih =>
    simp only [found] at h
    by_cases hs : Sol E I
    · rw [if_pos hs] at h; cases h
    · rw [if_neg hs] at h
      intro j hj
      cases j with
      | zero => exact hs
      | succ j =>
        have := ih h j (by omega)
        rw [passes_pass] at this
        exact this

theorem found_least {n : Nat} {E : List Ed} (hE : In n E) {k : Nat} {I t : Nat → Int} (h : found E k I = some t) : Least n E I t := by
  obtain ⟨h1, j, h2⟩ := found_some h
  subst h2
  exact sol_least hE h1

theorem found_no {n : Nat} {E : List Ed} (hE : In n E) {I : Nat → Int} (h : found E (n + 1) I = none) (s : Nat → Int) : ¬ Sol E s :=
  none_sol hE (Nat.le_refl n) (found_none h n (by omega)) s

end Go.Kin.St
