/-! Difference constraints: the least schedule, and why n rounds reach it. Plain Lean. -/
set_option linter.unusedSectionVars false
set_option linter.unusedVariables false
set_option linter.unusedSimpArgs false
namespace Go.Kin.St

/-- The time of `b` less that of `a` is at most `w`. -/
structure Ed where
  a : Nat
  b : Nat
  w : Int

def upd {α : Type} (t : Nat → α) (i : Nat) (v : α) : Nat → α := fun x => if x = i then v else t x

theorem upd_self {α : Type} (t : Nat → α) (i : Nat) (v : α) : upd t i v i = v := by simp [upd]
theorem upd_other {α : Type} (t : Nat → α) {i x : Nat} (v : α) (h : x ≠ i) : upd t i v x = t x := by simp [upd, h]

/-- All constraints are kept. -/
def Sol (E : List Ed) (t : Nat → Int) : Prop := ∀ e ∈ E, t e.b - t e.a ≤ e.w

/-- All edges are between points below `n`. -/
def In (n : Nat) (E : List Ed) : Prop := ∀ e ∈ E, e.a < n ∧ e.b < n

def raise (t : Nat → Int) (e : Ed) : Nat → Int := upd t e.a (max (t e.a) (t e.b - e.w))

def pass (E : List Ed) (t : Nat → Int) : Nat → Int := E.foldl raise t

/-! ## Sums and counts below n -/

def sum : Nat → (Nat → Int) → Int
  | 0, _ => 0
  | n + 1, f => sum n f + f n

theorem sum_le {n : Nat} {f g : Nat → Int} (h : ∀ x, x < n → f x ≤ g x) : sum n f ≤ sum n g := by
  induction n with
  | zero => simp [sum]
  | succ n ih =>
    have h1 := ih (fun x hx => h x (by omega))
    have h2 := h n (by omega)
    simp only [sum]; omega

theorem sum_lt {n : Nat} {f g : Nat → Int} (h : ∀ x, x < n → f x ≤ g x) {y : Nat} (hy : y < n) (hl : f y < g y) :
    sum n f < sum n g := by
  induction n with
  | zero => omega
  | succ n ih =>
    simp only [sum]
    rcases Nat.lt_or_ge y n with h0 | h0
    · have h1 := ih (fun x hx => h x (by omega)) h0
      have h2 := h n (by omega); omega
    · have : y = n := by omega
      subst this
      have h1 := sum_le (n := y) (f := f) (g := g) (fun x hx => h x (by omega))
      omega

theorem sum_nonneg {n : Nat} {f : Nat → Int} (h : ∀ x, x < n → 0 ≤ f x) : 0 ≤ sum n f := by
  induction n with
  | zero => simp [sum]
  | succ n ih =>
    have h1 := ih (fun x hx => h x (by omega))
    have h2 := h n (by omega)
    simp only [sum]; omega

noncomputable def cnt : Nat → (Nat → Prop) → Nat
  | 0, _ => 0
  | n + 1, p => cnt n p + (open Classical in if p n then 1 else 0)

theorem cnt_le (n : Nat) (p : Nat → Prop) : cnt n p ≤ n := by
  induction n with
  | zero => simp [cnt]
  | succ n ih => simp only [cnt]; split <;> omega

theorem cnt_mono {n : Nat} {p q : Nat → Prop} (h : ∀ x, x < n → p x → q x) : cnt n p ≤ cnt n q := by
  induction n with
  | zero => simp [cnt]
  | succ n ih =>
    have h1 := ih (fun x hx => h x (by omega))
    have h2 := h n (by omega)
    simp only [cnt]
    by_cases hp : p n
    · simp only [hp, h2 hp, if_true]; omega
    · simp only [hp, if_false]; omega

theorem cnt_lt {n : Nat} {p q : Nat → Prop} (h : ∀ x, x < n → p x → q x) {y : Nat} (hy : y < n) (hp : ¬ p y) (hq : q y) :
    cnt n p < cnt n q := by
  induction n with
  | zero => omega
  | succ n ih =>
    simp only [cnt]
    rcases Nat.lt_or_ge y n with h0 | h0
    · have h1 := ih (fun x hx => h x (by omega)) h0
      have h2 := h n (by omega)
      by_cases hp : p n
      · simp only [hp, h2 hp, if_true]; omega
      · simp only [hp, if_false]; omega
    · have : y = n := by omega
      subst this
      have h1 := cnt_mono (n := y) (p := p) (q := q) (fun x hx => h x (by omega))
      simp only [hp, hq, if_true, if_false]; omega

theorem cnt_all {n : Nat} {p : Nat → Prop} (h : n ≤ cnt n p) : ∀ x, x < n → p x := by
  induction n with
  | zero => omega
  | succ n ih =>
    simp only [cnt] at h
    have h1 := cnt_le n p
    by_cases hp : p n
    · intro x hx
      rcases Nat.lt_or_ge x n with h0 | h0
      · simp only [hp, if_true] at h
        exact ih (by omega) x h0
      · have : x = n := by omega
        subst this; exact hp
    · simp only [hp, if_false] at h; omega

/-! ## The least schedule -/

theorem sol_min {E : List Ed} {s u : Nat → Int} (hs : Sol E s) (hu : Sol E u) : Sol E (fun x => min (s x) (u x)) := by
  intro e he
  have h1 := hs e he
  have h2 := hu e he
  simp only; omega

theorem sol_shift {E : List Ed} {s : Nat → Int} (hs : Sol E s) (k : Int) : Sol E (fun x => s x + k) := by
  intro e he
  have h1 := hs e he
  simp only; omega

/-- `L` is the least schedule that is nowhere below `I`. -/
structure Least (n : Nat) (E : List Ed) (I L : Nat → Int) : Prop where
  sol : Sol E L
  pos : ∀ x, x < n → I x ≤ L x
  le : ∀ s, Sol E s → (∀ x, x < n → I x ≤ s x) → ∀ x, x < n → L x ≤ s x

theorem least_exists {n : Nat} {E : List Ed} {I s : Nat → Int} (hs : Sol E s) (hp : ∀ x, x < n → I x ≤ s x) :
    ∃ L, Least n E I L := by
  have key : ∀ k : Nat, ∀ s, Sol E s → (∀ x, x < n → I x ≤ s x) → sum n (fun x => s x - I x) ≤ k → ∃ L, Least n E I L := by
    intro k
    induction k with
    | zero =>
      intro s hs hp hk
      refine ⟨s, hs, hp, fun u hu hq x hx => ?_⟩
      rcases Int.lt_or_le (u x) (s x) with h | h
      · have := sum_lt (n := n) (f := fun y => min (s y) (u y) - I y) (g := fun y => s y - I y) (fun y _ => by show min (s y) (u y) - I y ≤ s y - I y; omega) hx (by show min (s x) (u x) - I x < s x - I x; omega)
        have h2 := sum_nonneg (n := n) (f := fun y => min (s y) (u y) - I y) (fun y hy => by have := hp y hy; have := hq y hy; show 0 ≤ min (s y) (u y) - I y; omega)
        omega
      · exact h
    | succ k ih =>
      intro s hs hp hk
      by_cases hl : ∀ u, Sol E u → (∀ x, x < n → I x ≤ u x) → ∀ x, x < n → s x ≤ u x
      · exact ⟨s, hs, hp, hl⟩
      · have ⟨u, hu, hq, x, hx, h⟩ : ∃ u, Sol E u ∧ (∀ x, x < n → I x ≤ u x) ∧ ∃ x, x < n ∧ ¬ s x ≤ u x := by
          apply Classical.byContradiction
          intro hn
          apply hl
          intro u hu hq x hx
          apply Classical.byContradiction
          intro h
          exact hn ⟨u, hu, hq, x, hx, h⟩
        refine ih (fun y => min (s y) (u y)) (sol_min hs hu) (fun y hy => by have := hp y hy; have := hq y hy; show I y ≤ min (s y) (u y); omega) ?_
        have := sum_lt (n := n) (f := fun y => min (s y) (u y) - I y) (g := fun y => s y - I y) (fun y _ => by show min (s y) (u y) - I y ≤ s y - I y; omega) hx (by show min (s x) (u x) - I x < s x - I x; omega)
        omega
  refine key (sum n (fun x => s x - I x)).toNat s hs hp ?_
  have := sum_nonneg (n := n) (f := fun x => s x - I x) (fun x hx => by have := hp x hx; show 0 ≤ s x - I x; omega)
  omega

theorem Least.uniq {n : Nat} {E : List Ed} {I L M : Nat → Int} (h : Least n E I L) (g : Least n E I M) : ∀ x, x < n → L x = M x :=
  fun x hx => Int.le_antisymm (h.le M g.sol g.pos x hx) (g.le L h.sol h.pos x hx)

/-- Only the set of edges counts. -/
theorem sol_congr {E F : List Ed} (h : ∀ e, e ∈ E ↔ e ∈ F) (t : Nat → Int) : Sol E t ↔ Sol F t :=
  ⟨fun g e he => g e ((h e).2 he), fun g e he => g e ((h e).1 he)⟩

theorem Least.congr {n : Nat} {E F : List Ed} (h : ∀ e, e ∈ E ↔ e ∈ F) {I L : Nat → Int} (g : Least n E I L) : Least n F I L :=
  ⟨(sol_congr h L).1 g.sol, g.pos, fun s hs => g.le s ((sol_congr h s).2 hs)⟩

/-! ## Passes -/

theorem raise_ge (t : Nat → Int) (e : Ed) (x : Nat) : t x ≤ raise t e x := by
  unfold raise upd
  split
  · rename_i h; subst h; omega
  · omega

theorem pass_ge (E : List Ed) (t : Nat → Int) (x : Nat) : t x ≤ pass E t x := by
  induction E generalizing t with
  | nil => simp [pass]
  | cons e E ih => exact Int.le_trans (raise_ge t e x) (ih (raise t e))

theorem raise_le {n : Nat} {e : Ed} {t s : Nat → Int} (hb : e.b < n) (hs : s e.b - s e.a ≤ e.w) (h : ∀ x, x < n → t x ≤ s x) :
    ∀ x, x < n → raise t e x ≤ s x := by
  intro x hx
  unfold raise upd
  split
  · rename_i hxa; subst hxa
    have h1 := h e.b hb
    have h2 := h e.a hx
    omega
  · exact h x hx

theorem pass_le {n : Nat} {E : List Ed} (hE : In n E) {t s : Nat → Int} (hs : Sol E s) (h : ∀ x, x < n → t x ≤ s x) :
    ∀ x, x < n → pass E t x ≤ s x := by
  induction E generalizing t with
  | nil => simpa [pass] using h
  | cons e E ih =>
    exact ih (fun e he => hE e (List.mem_cons_of_mem _ he)) (fun e he => hs e (List.mem_cons_of_mem _ he))
      (raise_le (hE e List.mem_cons_self).2 (hs e List.mem_cons_self) h)

theorem pass_kept {E : List Ed} {t : Nat → Int} (h : Sol E t) : pass E t = t := by
  induction E with
  | nil => rfl
  | cons e E ih =>
    have h1 : raise t e = t := by
      funext x
      have := h e List.mem_cons_self
      unfold raise upd
      split
      · rename_i hx; subst hx; omega
      · rfl
    show E.foldl raise (raise t e) = t
    rw [h1]
    exact ih (fun e he => h e (List.mem_cons_of_mem _ he))

/-- What an edge asks of the start is there after the pass. -/
theorem pass_edge {E : List Ed} (t : Nat → Int) {e : Ed} (he : e ∈ E) : t e.b - e.w ≤ pass E t e.a := by
  induction E generalizing t with
  | nil => cases he
  | cons f E ih =>
    rcases List.mem_cons.1 he with h | h
    · subst h
      refine Int.le_trans ?_ (pass_ge E (raise t e) e.a)
      simp only [raise, upd, if_true]; omega
    · have h1 := ih (raise t f) h
      have h2 := raise_ge t f e.b
      show _ ≤ pass E (raise t f) e.a
      omega

/-- A pass makes a further time final. -/
theorem pass_grows {n : Nat} {E : List Ed} (hE : In n E) {I L t : Nat → Int} (hL : Least n E I L)
    (h0 : ∀ x, x < n → I x ≤ t x) (hl : ∀ x, x < n → t x ≤ L x) {y : Nat} (hy : y < n) (hn : t y ≠ L y) :
    cnt n (fun x => t x = L x) < cnt n (fun x => pass E t x = L x) := by
  have hkeep : ∀ x, x < n → t x = L x → pass E t x = L x := fun x hx h => by
    have h1 := pass_ge E t x
    have h2 := pass_le hE hL.sol hl x hx
    omega
  let M : Nat → Int := fun x => open Classical in if t x = L x then L x else L x - 1
  have hM : ¬ Sol E M := fun hs => by
    have := hL.le M hs (fun x hx => by
      have h1 := h0 x hx; have h2 := hl x hx
      simp only [M]; split <;> omega) y hy
    simp only [M, hn, if_false] at this
    omega
  have ⟨e, he, hv⟩ : ∃ e ∈ E, ¬ (M e.b - M e.a ≤ e.w) := by
    apply Classical.byContradiction
    intro hh
    apply hM
    intro e he
    apply Classical.byContradiction
    intro h
    exact hh ⟨e, he, h⟩
  have hs := hL.sol e he
  have hi := hE e he
  have ha : ¬ t e.a = L e.a := fun h => by
    simp only [M, h, if_true] at hv
    split at hv <;> omega
  have hb : t e.b = L e.b := by
    apply Classical.byContradiction
    intro h
    simp only [M, ha, h, if_false] at hv
    omega
  simp only [M, ha, hb, if_true, if_false] at hv
  refine cnt_lt hkeep hi.1 ha ?_
  have h1 := pass_edge t he
  have h2 := pass_le hE hL.sol hl e.a hi.1
  omega

def passes (E : List Ed) : Nat → (Nat → Int) → (Nat → Int)
  | 0, t => t
  | k + 1, t => pass E (passes E k t)

theorem passes_ge (E : List Ed) (k : Nat) (I : Nat → Int) (x : Nat) : I x ≤ passes E k I x := by
  induction k with
  | zero => exact Int.le_refl _
  | succ k ih => exact Int.le_trans ih (pass_ge _ _ _)

theorem passes_le {n : Nat} {E : List Ed} (hE : In n E) {I s : Nat → Int} (hs : Sol E s) (hp : ∀ x, x < n → I x ≤ s x) (k : Nat) :
    ∀ x, x < n → passes E k I x ≤ s x := by
  induction k with
  | zero => exact hp
  | succ k ih => exact pass_le hE hs ih

theorem passes_grow {n : Nat} {E : List Ed} (hE : In n E) {I L : Nat → Int} (hL : Least n E I L) (k : Nat) :
    min k n ≤ cnt n (fun x => passes E k I x = L x) := by
  induction k with
  | zero => simp
  | succ k hc =>
    have h0 : ∀ x, x < n → I x ≤ passes E k I x := fun x _ => passes_ge E k I x
    have hl := passes_le hE hL.sol hL.pos k
    by_cases hall : ∀ x, x < n → passes E k I x = L x
    · have : n ≤ cnt n (fun x => passes E (k+1) I x = L x) := by
        have hk : ∀ m, m ≤ n → m ≤ cnt m (fun x => passes E (k+1) I x = L x) := by
          intro m
          induction m with
          | zero => intro _; exact Nat.zero_le _
          | succ m ihm =>
            intro hm
            have h1 := ihm (by omega)
            have h2 : passes E (k+1) I m = L m := by
              have h3 := hall m (by omega)
              have h4 := pass_ge E (passes E k I) m
              have h5 := pass_le hE hL.sol hl m (by omega)
              show pass E (passes E k I) m = L m
              omega
            simp only [cnt, h2, if_true]; omega
        exact hk n (Nat.le_refl n)
      omega
    · have ⟨y, hy, hn⟩ : ∃ y, y < n ∧ passes E k I y ≠ L y := by
        apply Classical.byContradiction
        intro hh
        apply hall
        intro x hx
        apply Classical.byContradiction
        intro h
        exact hh ⟨x, hx, h⟩
      have := pass_grows hE hL h0 hl hy hn
      have hs : cnt n (fun x => pass E (passes E k I) x = L x) = cnt n (fun x => passes E (k+1) I x = L x) := rfl
      omega

/-- After n passes the least schedule is reached. -/
theorem passes_least {n : Nat} {E : List Ed} (hE : In n E) {I L : Nat → Int} (hL : Least n E I L) {k : Nat} (hk : n ≤ k) :
    ∀ x, x < n → passes E k I x = L x := by
  have h := passes_grow hE hL k
  exact cnt_all (by omega)

theorem passes_sol {n : Nat} {E : List Ed} (hE : In n E) {I s : Nat → Int} (hs : Sol E s) (hp : ∀ x, x < n → I x ≤ s x)
    {k : Nat} (hk : n ≤ k) : Sol E (passes E k I) := by
  obtain ⟨L, hL⟩ := least_exists hs hp
  have h := passes_least hE hL hk
  intro e he
  have h1 := hL.sol e he
  have h2 := hE e he
  rw [h e.a h2.1, h e.b h2.2]; exact h1

/-- Whatever pass keeps all constraints is the least schedule. -/
theorem sol_least {n : Nat} {E : List Ed} (hE : In n E) {I : Nat → Int} {k : Nat} (h : Sol E (passes E k I)) :
    Least n E I (passes E k I) :=
  ⟨h, fun x _ => passes_ge E k I x, fun _ hs hp => passes_le hE hs hp k⟩

/-- A schedule, raised far enough, is nowhere below. -/
theorem lift (n : Nat) (I s : Nat → Int) : ∃ k : Int, ∀ x, x < n → I x ≤ s x + k := by
  induction n with
  | zero => exact ⟨0, fun x h => by omega⟩
  | succ n ih =>
    obtain ⟨k, hk⟩ := ih
    refine ⟨max k (I n - s n), fun x hx => ?_⟩
    rcases Nat.lt_or_ge x n with h | h
    · have := hk x h; omega
    · have : x = n := by omega
      subst this; omega

/-- If n passes do not suffice, nothing is a schedule. -/
theorem none_sol {n : Nat} {E : List Ed} (hE : In n E) {I : Nat → Int} {k : Nat} (hk : n ≤ k) (h : ¬ Sol E (passes E k I)) (s : Nat → Int) :
    ¬ Sol E s := fun hs => by
  obtain ⟨c, hc⟩ := lift n I s
  exact h (passes_sol hE (sol_shift hs c) hc hk)

/-! ## The first pass that keeps all -/

/-- What the loop of rounds returns: the first of the passes that keeps all, if there is one among `k`. -/
noncomputable def found (E : List Ed) : Nat → (Nat → Int) → Option (Nat → Int)
  | 0, _ => none
  | k + 1, t => open Classical in if Sol E t then some t else found E k (pass E t)

theorem passes_pass (E : List Ed) (k : Nat) (t : Nat → Int) : passes E k (pass E t) = pass E (passes E k t) := by
  induction k with
  | zero => rfl
  | succ k ih => simp only [passes, ih]

theorem found_some {E : List Ed} {k : Nat} {I t : Nat → Int} (h : found E k I = some t) : Sol E t ∧ ∃ j, t = passes E j I := by
  induction k generalizing I with
  | zero => cases h
  | succ k ih =>
    simp only [found] at h
    by_cases hs : Sol E I
    · rw [if_pos hs] at h
      cases h
      exact ⟨hs, 0, rfl⟩
    · rw [if_neg hs] at h
      obtain ⟨h1, j, h2⟩ := ih h
      exact ⟨h1, j + 1, by rw [h2, passes_pass]; rfl⟩

theorem found_none {E : List Ed} {k : Nat} {I : Nat → Int} (h : found E k I = none) : ∀ j, j < k → ¬ Sol E (passes E j I) := by
  induction k generalizing I with
  | zero => intro j hj; omega
  | succ k ih =>
    simp only [found] at h
    by_cases hs : Sol E I
    · rw [if_pos hs] at h; cases h
    · rw [if_neg hs] at h
      intro j hj
      cases j with
      | zero => exact hs
      | succ j =>
        have := ih h j (by omega)
        rw [passes_pass] at this
        exact this

theorem found_least {n : Nat} {E : List Ed} (hE : In n E) {k : Nat} {I t : Nat → Int} (h : found E k I = some t) : Least n E I t := by
  obtain ⟨h1, j, h2⟩ := found_some h
  subst h2
  exact sol_least hE h1

theorem found_no {n : Nat} {E : List Ed} (hE : In n E) {I : Nat → Int} (h : found E (n + 1) I = none) (s : Nat → Int) : ¬ Sol E s :=
  none_sol hE (Nat.le_refl n) (found_none h n (by omega)) s

end Go.Kin.St

set_option linter.unusedSectionVars false
set_option linter.unusedVariables false
set_option linter.unusedSimpArgs false
/-! The greatest difference of two times: lowering passes are raising passes of the network turned about. Plain Lean. -/
namespace Go.Kin.St

def flip (e : Ed) : Ed := ⟨e.b, e.a, e.w⟩
def neg (t : Nat → Int) : Nat → Int := fun x => - t x
def low (t : Nat → Int) (e : Ed) : Nat → Int := upd t e.b (min (t e.b) (t e.a + e.w))
def lows (E : List Ed) (t : Nat → Int) : Nat → Int := E.foldl low t
def lowers (E : List Ed) : Nat → (Nat → Int) → (Nat → Int)
  | 0, t => t
  | k + 1, t => lows E (lowers E k t)

theorem neg_neg' (t : Nat → Int) : neg (neg t) = t := by funext x; simp [neg]

theorem low_flip (t : Nat → Int) (e : Ed) : low t e = neg (raise (neg t) (flip e)) := by
  funext x
  simp only [low, neg, raise, flip, upd]
  split
  · omega
  · omega

theorem lows_flip (E : List Ed) (t : Nat → Int) : lows E t = neg (pass (E.map flip) (neg t)) := by
  induction E generalizing t with
  | nil => simp [lows, pass, neg_neg']
  | cons e E ih =>
    show lows E (low t e) = _
    rw [ih, low_flip, neg_neg']; rfl

theorem lowers_flip (E : List Ed) (k : Nat) (t : Nat → Int) : lowers E k t = neg (passes (E.map flip) k (neg t)) := by
  induction k with
  | zero => simp [lowers, passes, neg_neg']
  | succ k ih => simp only [lowers, passes, ih, lows_flip, neg_neg']

theorem sol_flip (E : List Ed) (t : Nat → Int) : Sol (E.map flip) (neg t) ↔ Sol E t := by
  constructor
  · intro h e he
    have := h (flip e) (List.mem_map_of_mem he)
    simp only [flip, neg] at this; omega
  · intro h e he
    obtain ⟨f, hf, rfl⟩ := List.mem_map.1 he
    have := h f hf
    simp only [flip, neg]; omega

theorem in_flip {n : Nat} {E : List Ed} (h : In n E) : In n (E.map flip) := by
  intro e he
  obtain ⟨f, hf, rfl⟩ := List.mem_map.1 he
  exact ⟨(h f hf).2, (h f hf).1⟩

theorem lowers_le (E : List Ed) (k : Nat) (I : Nat → Int) (x : Nat) : lowers E k I x ≤ I x := by
  rw [lowers_flip]
  have := passes_ge (E.map flip) k (neg I) x
  simp only [neg] at this ⊢; omega

theorem lowers_ge {n : Nat} {E : List Ed} (hE : In n E) {I s : Nat → Int} (hs : Sol E s) (hp : ∀ x, x < n → s x ≤ I x) (k : Nat) :
    ∀ x, x < n → s x ≤ lowers E k I x := by
  intro x hx
  rw [lowers_flip]
  have := passes_le (in_flip hE) ((sol_flip E s).2 hs) (I := neg I) (fun x hx => by have := hp x hx; simp only [neg]; omega) k x hx
  simp only [neg] at this ⊢; omega

theorem lowers_sol {n : Nat} {E : List Ed} (hE : In n E) {I s : Nat → Int} (hs : Sol E s) {k : Nat} (hk : n ≤ k) :
    Sol E (lowers E k I) := by
  obtain ⟨c, hc⟩ := lift n (neg I) (neg s)
  rw [lowers_flip, ← sol_flip, neg_neg']
  exact passes_sol (in_flip hE) (sol_shift ((sol_flip E s).2 hs) c) hc hk

/-- If n lowering passes do not suffice, nothing is a schedule. -/
theorem lowers_none {n : Nat} {E : List Ed} (hE : In n E) {I : Nat → Int} {k : Nat} (hk : n ≤ k) (h : ¬ Sol E (lowers E k I)) (s : Nat → Int) :
    ¬ Sol E s := fun hs => h (lowers_sol hE hs hk)

/-! ## Distances, and whether they are known -/

def reach (p : (Nat → Int) × (Nat → Bool)) (e : Ed) : (Nat → Int) × (Nat → Bool) :=
  if p.2 e.a = true ∧ (p.2 e.b = false ∨ p.1 e.a + e.w < p.1 e.b) then (upd p.1 e.b (p.1 e.a + e.w), upd p.2 e.b true) else p

def reachs (E : List Ed) (p : (Nat → Int) × (Nat → Bool)) : (Nat → Int) × (Nat → Bool) := E.foldl reach p

def reached (E : List Ed) : Nat → (Nat → Int) × (Nat → Bool) → (Nat → Int) × (Nat → Bool)
  | 0, p => p
  | k + 1, p => reachs E (reached E k p)

/-- What is not known is far. -/
def sees (s : Nat → Int) (c M : Int) (p : (Nat → Int) × (Nat → Bool)) : Nat → Int := fun x => if p.2 x = true then p.1 x else s x - c + M

/-- Bounds of all that is known. -/
def Near (n : Nat) (B : Int) (p : (Nat → Int) × (Nat → Bool)) : Prop := ∀ x, x < n → p.2 x = true → p.1 x ≤ B

theorem reach_sees {n : Nat} {s : Nat → Int} {c M B : Int} {p : (Nat → Int) × (Nat → Bool)} {e : Ed}
    (ha : e.a < n) (hb : e.b < n) (hs : s e.b - s e.a ≤ e.w)
    (hB : Near n B p) (hM : ∀ x, x < n → B + e.w < s x - c + M) (hM0 : ∀ x, x < n → B ≤ s x - c + M) :
    ∀ x, sees s c M (reach p e) x = low (sees s c M p) e x := by
  intro x
  have h1 := hB e.a ha
  have h2 := hB e.b hb
  have h3 := hM e.b hb
  have h4 := hM0 e.b hb
  unfold reach
  by_cases hc : p.2 e.a = true ∧ (p.2 e.b = false ∨ p.1 e.a + e.w < p.1 e.b)
  · rw [if_pos hc]
    obtain ⟨hpa, hor⟩ := hc
    have h1 := h1 hpa
    simp only [low, sees, upd, hpa, if_true]
    by_cases hx : x = e.b
    · subst hx
      simp only [if_true]
      by_cases hpb : p.2 e.b = true
      · have h2 := h2 hpb
        rcases hor with hf | hlt
        · rw [hf] at hpb; cases hpb
        · simp only [hpb, if_true]; omega
      · simp only [hpb]; simp only [Bool.false_eq_true, if_false]; omega
    · simp only [hx, if_false]
  · rw [if_neg hc]
    simp only [low, sees, upd]
    by_cases hx : x = e.b
    · subst hx
      simp only [if_true]
      by_cases hpa : p.2 e.a = true
      · have h1 := h1 hpa
        by_cases hpb : p.2 e.b = true
        · have hlt : ¬ p.1 e.a + e.w < p.1 e.b := fun h => hc ⟨hpa, Or.inr h⟩
          simp only [hpa, hpb, if_true]; omega
        · exact absurd ⟨hpa, Or.inl (by simpa using hpb)⟩ hc
      · by_cases hpb : p.2 e.b = true
        · have h2 := h2 hpb
          rw [if_pos hpb, if_neg hpa]; omega
        · rw [if_neg hpb, if_neg hpa]; omega
    · rw [if_neg hx]

theorem known_mono {p : Nat → Bool} {b x : Nat} (hx : p x = true) : (upd p b true) x = true := by
  simp only [upd]; split
  · rfl
  · exact hx

/-- Bounds by the number of known points: with `W` as the greatest weight, known distances are at most (known − 1) W. -/
def Low (n : Nat) (W : Int) (p : (Nat → Int) × (Nat → Bool)) : Prop :=
  1 ≤ cnt n (fun x => p.2 x = true) ∧ ∀ x, x < n → p.2 x = true → p.1 x ≤ (((cnt n (fun x => p.2 x = true) : Nat) : Int) - 1) * W

theorem reach_low {n : Nat} {W : Int} (hW : 0 ≤ W) {p : (Nat → Int) × (Nat → Bool)} {e : Ed} (ha : e.a < n) (hb : e.b < n) (hw : e.w ≤ W)
    (h : Low n W p) : Low n W (reach p e) := by
  obtain ⟨h0, h1⟩ := h
  unfold reach
  by_cases hc : p.2 e.a = true ∧ (p.2 e.b = false ∨ p.1 e.a + e.w < p.1 e.b)
  · rw [if_pos hc]
    have hle : cnt n (fun x => p.2 x = true) ≤ cnt n (fun x => (upd p.2 e.b true) x = true) :=
      cnt_mono (fun x _ hx => known_mono hx)
    refine ⟨by show 1 ≤ cnt n (fun x => (upd p.2 e.b true) x = true); omega, fun x hx hm => ?_⟩
    show (upd p.1 e.b (p.1 e.a + e.w)) x ≤ (((cnt n (fun x => (upd p.2 e.b true) x = true) : Nat) : Int) - 1) * W
    have hmul : (((cnt n (fun x => p.2 x = true) : Nat) : Int) - 1) * W ≤ (((cnt n (fun x => (upd p.2 e.b true) x = true) : Nat) : Int) - 1) * W :=
      Int.mul_le_mul_of_nonneg_right (by omega) hW
    have hxa := h1 e.a ha hc.1
    by_cases hxb : x = e.b
    · subst hxb
      rw [upd_self]
      rcases hc.2 with hf | hlt
      · have hlt := cnt_lt (n := n) (p := fun x => p.2 x = true) (q := fun x => (upd p.2 e.b true) x = true)
          (fun x _ hx => known_mono hx) hb (by simp [hf]) (by simp [upd])
        have : ((((cnt n (fun x => p.2 x = true) : Nat) : Int) - 1) + 1) * W ≤ (((cnt n (fun x => (upd p.2 e.b true) x = true) : Nat) : Int) - 1) * W :=
          Int.mul_le_mul_of_nonneg_right (by omega) hW
        rw [Int.add_mul, Int.one_mul] at this
        omega
      · by_cases hpb : p.2 e.b = true
        · have := h1 e.b hb hpb; omega
        · have hlt := cnt_lt (n := n) (p := fun x => p.2 x = true) (q := fun x => (upd p.2 e.b true) x = true)
            (fun x _ hx => known_mono hx) hb hpb (by simp [upd])
          have : ((((cnt n (fun x => p.2 x = true) : Nat) : Int) - 1) + 1) * W ≤ (((cnt n (fun x => (upd p.2 e.b true) x = true) : Nat) : Int) - 1) * W :=
            Int.mul_le_mul_of_nonneg_right (by omega) hW
          rw [Int.add_mul, Int.one_mul] at this
          omega
    · rw [upd_other _ _ hxb]
      have : (upd p.2 e.b true) x = true := hm
      rw [upd_other _ _ hxb] at this
      have := h1 x hx this
      omega
  · rw [if_neg hc]; exact ⟨h0, h1⟩

theorem reachs_low {n : Nat} {W : Int} (hW : 0 ≤ W) {E : List Ed} (hE : In n E) (hw : ∀ e ∈ E, e.w ≤ W) {p : (Nat → Int) × (Nat → Bool)}
    (h : Low n W p) : Low n W (reachs E p) := by
  induction E generalizing p with
  | nil => exact h
  | cons e E ih =>
    exact ih (fun f hf => hE f (List.mem_cons_of_mem _ hf)) (fun f hf => hw f (List.mem_cons_of_mem _ hf))
      (reach_low hW (hE e List.mem_cons_self).1 (hE e List.mem_cons_self).2 (hw e List.mem_cons_self) h)

theorem reached_low {n : Nat} {W : Int} (hW : 0 ≤ W) {E : List Ed} (hE : In n E) (hw : ∀ e ∈ E, e.w ≤ W) {p : (Nat → Int) × (Nat → Bool)}
    (h : Low n W p) (k : Nat) : Low n W (reached E k p) := by
  induction k with
  | zero => exact h
  | succ k ih => exact reachs_low hW hE hw ih

theorem Low.near {n : Nat} {W : Int} (hW : 0 ≤ W) {p : (Nat → Int) × (Nat → Bool)} (h : Low n W p) : Near n (n * W) p := by
  intro x hx hm
  have h1 := h.2 x hx hm
  have h2 := cnt_le n (fun x => p.2 x = true)
  have : (((cnt n (fun x => p.2 x = true) : Nat) : Int) - 1) * W ≤ (n : Int) * W := Int.mul_le_mul_of_nonneg_right (by omega) hW
  omega

theorem reachs_sees {n : Nat} {W : Int} (hW : 0 ≤ W) {E : List Ed} (hE : In n E) (hw : ∀ e ∈ E, e.w ≤ W) {s : Nat → Int} (hs : Sol E s)
    {c M : Int} (hM : ∀ x, x < n → n * W + W < s x - c + M) {p : (Nat → Int) × (Nat → Bool)}
    (h : Low n W p) : sees s c M (reachs E p) = lows E (sees s c M p) := by
  induction E generalizing p with
  | nil => rfl
  | cons e E ih =>
    have he := hE e List.mem_cons_self
    have h1 := reach_low hW he.1 he.2 (hw e List.mem_cons_self) h
    have h2 : sees s c M (reach p e) = low (sees s c M p) e := by
      funext x
      have hwe := hw e List.mem_cons_self
      exact reach_sees he.1 he.2 (hs e List.mem_cons_self) (h.near hW) (fun x hx => by have := hM x hx; omega)
        (fun x hx => by have := hM x hx; omega) x
    show sees s c M (reachs E (reach p e)) = lows E (low (sees s c M p) e)
    rw [← h2]
    exact ih (fun f hf => hE f (List.mem_cons_of_mem _ hf)) (fun f hf => hw f (List.mem_cons_of_mem _ hf)) (fun f hf => hs f (List.mem_cons_of_mem _ hf)) h1

theorem reached_sees {n : Nat} {W : Int} (hW : 0 ≤ W) {E : List Ed} (hE : In n E) (hw : ∀ e ∈ E, e.w ≤ W) {s : Nat → Int} (hs : Sol E s)
    {c M : Int} (hM : ∀ x, x < n → n * W + W < s x - c + M) {p : (Nat → Int) × (Nat → Bool)}
    (h : Low n W p) (k : Nat) : sees s c M (reached E k p) = lowers E k (sees s c M p) := by
  induction k with
  | zero => rfl
  | succ k ih =>
    show sees s c M (reachs E (reached E k p)) = lows E (lowers E k (sees s c M p))
    rw [reachs_sees hW hE hw hs hM (reached_low hW hE hw h k), ih]

/-! ## What a bound means -/

theorem reach_zero {p : (Nat → Int) × (Nat → Bool)} {e : Ed} (h : ∀ x, p.2 x = false → p.1 x = 0) :
    ∀ x, (reach p e).2 x = false → (reach p e).1 x = 0 := by
  intro x
  unfold reach
  split
  · intro hx
    have hx : (upd p.2 e.b true) x = false := hx
    show (upd p.1 e.b (p.1 e.a + e.w)) x = 0
    by_cases hxb : x = e.b
    · subst hxb; rw [upd_self] at hx; cases hx
    · rw [upd_other _ _ hxb] at hx ⊢; exact h x hx
  · exact h x

theorem reachs_zero {E : List Ed} {p : (Nat → Int) × (Nat → Bool)} (h : ∀ x, p.2 x = false → p.1 x = 0) :
    ∀ x, (reachs E p).2 x = false → (reachs E p).1 x = 0 := by
  induction E generalizing p with
  | nil => exact h
  | cons e E ih => exact ih (reach_zero h)

theorem reached_zero {E : List Ed} {p : (Nat → Int) × (Nat → Bool)} (h : ∀ x, p.2 x = false → p.1 x = 0) (k : Nat) :
    ∀ x, (reached E k p).2 x = false → (reached E k p).1 x = 0 := by
  induction k with
  | zero => exact h
  | succ k ih => exact reachs_zero ih

def origin (a : Nat) : (Nat → Int) × (Nat → Bool) := (fun _ => 0, fun x => decide (x = a))

theorem origin_low {n a : Nat} (ha : a < n) {W : Int} (hW : 0 ≤ W) : Low n W (origin a) := by
  have h : 1 ≤ cnt n (fun x => (origin a).2 x = true) := by
    have := cnt_lt (n := n) (p := fun _ => False) (q := fun x => (origin a).2 x = true) (fun _ _ h => h.elim) ha (fun h => h) (by simp [origin])
    omega
  refine ⟨h, fun x _ _ => ?_⟩
  have := Int.mul_le_mul_of_nonneg_right (a := 0) (b := ((cnt n (fun x => (origin a).2 x = true) : Nat) : Int) - 1) (by omega) hW
  rw [Int.zero_mul] at this
  exact this

/-- What the distances mean: the greatest differences, or none. -/
theorem bound_means {n : Nat} {W : Int} (hW : 0 ≤ W) {E : List Ed} (hE : In n E) (hw : ∀ e ∈ E, e.w ≤ W) {s : Nat → Int} (hs : Sol E s)
    {a b : Nat} (ha : a < n) (hb : b < n) {k : Nat} (hk : n ≤ k) :
    ((reached E k (origin a)).2 b = true → (∀ t, Sol E t → t b - t a ≤ (reached E k (origin a)).1 b) ∧ ∃ t, Sol E t ∧ t b - t a = (reached E k (origin a)).1 b) ∧
    ((reached E k (origin a)).2 b = false → (reached E k (origin a)).1 b = 0 ∧ ∀ v, ∃ t, Sol E t ∧ v ≤ t b - t a) := by
  have key : ∀ (t : Nat → Int), Sol E t → ∀ v, ∃ M G, v ≤ M ∧ Sol E G ∧ G a = 0 ∧ (∀ x, x < n → t x - t a ≤ G x) ∧
      G = sees s (s a) M (reached E k (origin a)) := by
    intro t ht v
    obtain ⟨c1, h1⟩ := lift n (fun _ => n * W + W + 1) (fun x => s x - s a)
    obtain ⟨c2, h2⟩ := lift n (fun x => t x - t a) (fun x => s x - s a)
    have hM : ∀ x, x < n → n * W + W < s x - s a + max v (max c1 c2) := fun x hx => by have := h1 x hx; omega
    have hr := reached_sees hW hE hw hs hM (origin_low ha hW) k
    have hI : ∀ u : Nat → Int, (∀ x, x < n → u x - u a ≤ s x - s a + max v (max c1 c2)) → ∀ x, x < n →
        u x - u a ≤ sees s (s a) (max v (max c1 c2)) (origin a) x := fun u hu x hx => by
      simp only [sees, origin]
      by_cases hxa : x = a
      · subst hxa; simp
      · simp only [hxa, decide_false, Bool.false_eq_true, if_false]; exact hu x hx
    have hge : ∀ u : Nat → Int, Sol E u → (∀ x, x < n → u x - u a ≤ s x - s a + max v (max c1 c2)) → ∀ x, x < n →
        u x - u a ≤ sees s (s a) (max v (max c1 c2)) (reached E k (origin a)) x := fun u hu hle x hx => by
      rw [hr]
      have := lowers_ge hE (sol_shift hu (- u a)) (I := sees s (s a) (max v (max c1 c2)) (origin a)) (fun x hx => by have := hI u hle x hx; omega) k x hx
      omega
    have hsM : ∀ x, x < n → 0 ≤ max v (max c1 c2) := fun x hx => by
      have := h1 a ha
      have : (0 : Int) ≤ n * W := Int.mul_nonneg (by omega) hW
      omega
    refine ⟨max v (max c1 c2), _, by omega, ?_, ?_, hge t ht (fun x hx => by have := h2 x hx; omega), rfl⟩
    · rw [hr]; exact lowers_sol hE hs hk
    · have h3 := hge s hs (fun x hx => by have := hsM x hx; omega) a ha
      have h4 : sees s (s a) (max v (max c1 c2)) (reached E k (origin a)) a ≤ 0 := by
        rw [hr]
        refine Int.le_trans (lowers_le _ _ _ _) ?_
        simp [sees, origin]
      omega
  constructor
  · intro hm
    refine ⟨fun t ht => ?_, ?_⟩
    · obtain ⟨M, G, _, _, _, hle, hG⟩ := key t ht 0
      have := hle b hb
      rw [hG] at this
      simp only [sees, hm, if_true] at this
      exact this
    · obtain ⟨M, G, _, hS, h0, _, hG⟩ := key s hs 0
      refine ⟨G, hS, ?_⟩
      rw [h0, hG]
      simp only [sees, hm, if_true]; omega
  · intro hm
    refine ⟨reached_zero (fun x hx => rfl) k b hm, fun v => ?_⟩
    obtain ⟨M, G, hv, hS, h0, _, hG⟩ := key s hs (v - (s b - s a))
    refine ⟨G, hS, ?_⟩
    rw [h0, hG]
    simp only [sees, hm, Bool.false_eq_true, if_false]; omega

/-- Between two differences lie no gaps. -/
theorem between {E : List Ed} {a b : Nat} {t u : Nat → Int} (ht : Sol E t) (hu : Sol E u) {v : Int}
    (h1 : t b - t a ≤ v) (h2 : v ≤ u b - u a) : ∃ r, Sol E r ∧ r b - r a = v := by
  refine ⟨fun x => min (u x + (- u a)) (t x + (- t a + (v - (t b - t a)))), sol_min (sol_shift hu _) (sol_shift ht _), ?_⟩
  show min (u b + - u a) (t b + (- t a + (v - (t b - t a)))) - min (u a + - u a) (t a + (- t a + (v - (t b - t a)))) = v
  omega

/-- The least times are not far from 0: below a gap nothing holds the others up. -/
theorem least_bound {n : Nat} {W : Int} (hW : 0 ≤ W) {E : List Ed} (hE : In n E) (hw : ∀ e ∈ E, - W ≤ e.w) {L : Nat → Int}
    (hL : Least n E (fun _ => 0) L) : ∀ x, x < n → L x ≤ n * W := by
  have hgap : ∀ K : Int, (∀ x, x < n → L x ≤ K ∨ K + W < L x) → (∀ x, x < n → K < L x → 0 < L x) → ∀ x, x < n → L x ≤ K := by
    intro K hK hpos x hx
    apply Classical.byContradiction
    intro hxK
    let M : Nat → Int := fun y => if K < L y then L y - 1 else L y
    have hM : Sol E M := fun e he => by
      have h1 := hL.sol e he
      have h2 := hE e he
      have h3 := hK e.a h2.1
      have h4 := hK e.b h2.2
      have h5 := hw e he
      simp only [M]
      split <;> split <;> omega
    have := hL.le M hM (fun y hy => by
      have h1 := hpos y hy
      have h2 := hL.pos y hy
      simp only [M]; split <;> omega) x hx
    simp only [M, show K < L x by omega, if_true] at this
    omega
  have hcnt : ∀ k : Nat, k ≤ n → k ≤ cnt n (fun x => L x ≤ (k : Int) * W) := by
    intro k
    induction k with
    | zero => intro _; exact Nat.zero_le _
    | succ k ih =>
      intro hk
      have h1 := ih (by omega)
      have hkW : ((k : Int) + 1) * W = k * W + W := by rw [Int.add_mul, Int.one_mul]
      have hkn : (0 : Int) ≤ k * W := Int.mul_nonneg (by omega) hW
      have hmono : ∀ x, x < n → L x ≤ (k : Int) * W → L x ≤ ((k + 1 : Nat) : Int) * W := fun x _ h => by
        rw [Int.natCast_add, Int.natCast_one, hkW]; omega
      by_cases hall : ∀ x, x < n → L x ≤ (k : Int) * W
      · have : ∀ m, m ≤ n → m ≤ cnt m (fun x => L x ≤ ((k + 1 : Nat) : Int) * W) := by
          intro m
          induction m with
          | zero => intro _; exact Nat.zero_le _
          | succ m ihm =>
            intro hm
            have h2 := ihm (by omega)
            have h3 := hmono m (by omega) (hall m (by omega))
            simp only [cnt]; rw [if_pos h3]; omega
        exact Nat.le_trans hk (this n (Nat.le_refl n))
      · have ⟨x, hx, hxk⟩ : ∃ x, x < n ∧ ¬ L x ≤ (k : Int) * W := by
          apply Classical.byContradiction
          intro hh
          apply hall
          intro x hx
          apply Classical.byContradiction
          intro h
          exact hh ⟨x, hx, h⟩
        have ⟨y, hy, hy1, hy2⟩ : ∃ y, y < n ∧ (k : Int) * W < L y ∧ L y ≤ k * W + W := by
          apply Classical.byContradiction
          intro hh
          have := hgap (k * W) (fun y hy => by
            rcases Int.lt_or_le (k * W) (L y) with h | h
            · rcases Int.lt_or_le (k * W + W) (L y) with h' | h'
              · exact Or.inr h'
              · exact absurd ⟨y, hy, h, h'⟩ hh
            · exact Or.inl h) (fun y _ h => by omega) x hx
          exact hxk this
        have := cnt_lt (n := n) (p := fun x => L x ≤ (k : Int) * W) (q := fun x => L x ≤ ((k + 1 : Nat) : Int) * W) hmono hy (by omega)
          (by rw [Int.natCast_add, Int.natCast_one, hkW]; exact hy2)
        omega
  exact cnt_all (hcnt n (Nat.le_refl n))

/-! ## Closed walks -/

def follows : Nat → List Ed → Prop
  | _, [] => True
  | p, e :: l => e.a = p ∧ follows e.b l

def endOf (p : Nat) (l : List Ed) : Nat := l.foldl (fun _ e => e.b) p
def weight : List Ed → Int
  | [] => 0
  | e :: l => e.w + weight l

theorem follows_sum {p : Nat} {l : List Ed} (h : follows p l) {t : Nat → Int} (ht : Sol l t) : t (endOf p l) - t p ≤ weight l := by
  induction l generalizing p with
  | nil => simp [endOf, weight]
  | cons e l ih =>
    obtain ⟨rfl, h⟩ := h
    have h1 := ih h (fun f hf => ht f (List.mem_cons_of_mem _ hf))
    have h2 := ht e List.mem_cons_self
    simp only [weight]
    show t (endOf e.b l) - t e.a ≤ _
    omega

/-- A closed walk of negative weight leaves no schedule. -/
theorem closed_none {E l : List Ed} {p : Nat} (h : follows p l) (he : endOf p l = p) (hw : weight l < 0) (hl : ∀ e ∈ l, e ∈ E) (t : Nat → Int) :
    ¬ Sol E t := fun ht => by
  have := follows_sum h (fun e he => ht e (hl e he)) (t := t)
  rw [he] at this; omega

end Go.Kin.St

set_option linter.unusedSectionVars false
set_option linter.unusedVariables false
set_option linter.unusedSimpArgs false
/-! The search for a negative cycle: stamps of the last update, and why `from` leads into a negative cycle. Plain Lean. -/
namespace Go.Kin.St

/-- The state of the search: distances, the points they came from, the edges' numbers, and (a ghost) the time of the last update. -/
structure Sr where
  d : Nat → Int
  fr : Nat → Nat
  by_ : Nat → Nat
  T : Nat → Nat

/-- One edge, with its number `k`, at the time `now`. -/
def Sr.step (s : Sr) (e : Ed) (k now : Nat) : Sr :=
  if s.d e.a + e.w < s.d e.b then ⟨upd s.d e.b (s.d e.a + e.w), upd s.fr e.b e.a, upd s.by_ e.b k, upd s.T e.b now⟩ else s

/-- an edge from a point to itself never raises it -/
def Loopless (E : List Ed) : Prop := ∀ e ∈ E, e.a = e.b → 0 ≤ e.w

/-- What holds of a point that was updated. -/
structure Pt (E : List Ed) (s : Sr) (now x : Nat) : Prop where
  le : s.T x ≤ now
  has : 0 < s.T x → ∃ e, E[s.by_ x]? = some e ∧ e.b = x ∧ s.fr x = e.a ∧ s.d e.a + e.w ≤ s.d x ∧ s.T e.a ≠ s.T x ∧
    (s.T x < s.T e.a → s.d e.a + e.w < s.d x) ∧ (E.length < s.T x → s.T x < s.T e.a + E.length)

structure Inv (E : List Ed) (s : Sr) (now : Nat) : Prop where
  pt : ∀ x, Pt E s now x
  ed : ∀ τ, 1 ≤ τ → τ ≤ now → now < τ + E.length → ∀ e, E[(τ - 1) % E.length]? = some e → s.T e.a ≤ τ → s.d e.b ≤ s.d e.a + e.w

theorem Inv.start (E : List Ed) (f b : Nat → Nat) : Inv E ⟨fun _ => 0, f, b, fun _ => 0⟩ 0 :=
  ⟨fun x => ⟨Nat.le_refl _, fun h => absurd h (by simp)⟩, fun τ h1 h2 => by omega⟩

theorem Inv.next {E : List Ed} {s : Sr} {now : Nat} (h : Inv E s now) (hl : Loopless E) {e : Ed} (he : E[now % E.length]? = some e) :
    Inv E (s.step e (now % E.length) (now + 1)) (now + 1) := by
  have hm : 0 < E.length := by
    rcases Nat.eq_zero_or_pos E.length with h0 | h0
    · have : E = [] := List.length_eq_zero_iff.1 h0
      subst this; simp at he
    · exact h0
  unfold Sr.step
  by_cases hf : s.d e.a + e.w < s.d e.b
  · have hne : e.a ≠ e.b := fun h => by have := hl e (List.mem_of_getElem? he) h; rw [h] at hf; omega
    rw [if_pos hf]
    refine ⟨fun x => ?_, fun τ h1 h2 h3 g hg ht => ?_⟩
    · have hx := h.pt x
      by_cases hxb : x = e.b
      · subst hxb
        refine ⟨by simp [upd], fun _ => ⟨e, ?_⟩⟩
        have ha := (h.pt e.a).le
        simp only [upd_self, upd_other _ _ hne]
        refine ⟨he, trivial, trivial, Int.le_refl _, by omega, fun hlt => by omega, fun hlt => ?_⟩
        rcases Nat.lt_or_ge (s.T e.a) (now + 1 - E.length + 1) with hc | hc
        · have := h.ed (now + 1 - E.length) (by omega) (by omega) (by omega) e (by
            have : (now + 1 - E.length - 1) % E.length = now % E.length := by
              obtain ⟨q, hq⟩ : ∃ q, now = q + E.length := ⟨now - E.length, by omega⟩
              rw [show now + 1 - E.length - 1 = q by omega, hq, Nat.add_mod_right]
            rw [this]; exact he) (by omega)
          omega
        · omega
      · refine ⟨by simp only [upd_other _ _ hxb]; have := hx.le; omega, fun hp => ?_⟩
        simp only [upd_other _ _ hxb] at hp
        obtain ⟨g, hg, hgb, hgf, hd, hT, hs, hr⟩ := hx.has hp
        refine ⟨g, ?_⟩
        simp only [upd_other _ _ hxb]
        by_cases hga : g.a = e.b
        · have hle := hx.le
          simp only [hga, upd_self] at hd hT hs hr ⊢
          exact ⟨hg, hgb, by omega, by omega, by omega, fun _ => by omega, fun _ => by omega⟩
        · simp only [upd_other _ _ hga]
          exact ⟨hg, hgb, hgf, hd, hT, hs, hr⟩
    · rcases Nat.lt_or_ge now τ with h4 | h4
      · have : τ = now + 1 := by omega
        subst this
        simp only [Nat.add_sub_cancel] at hg
        rw [he] at hg; cases hg
        simp only [upd_self, upd_other _ _ hne]; omega
      · by_cases hga : g.a = e.b
        · simp only [hga, upd_self] at ht; omega
        · simp only [upd_other _ _ hga] at ht ⊢
          have := h.ed τ h1 h4 (by omega) g hg ht
          by_cases hgb : g.b = e.b
          · simp only [hgb, upd_self] at this ⊢; omega
          · simp only [upd_other _ _ hgb]; exact this
  · rw [if_neg hf]
    refine ⟨fun x => ⟨Nat.le_succ_of_le (h.pt x).le, (h.pt x).has⟩, fun τ h1 h2 h3 g hg ht => ?_⟩
    rcases Nat.lt_or_ge now τ with h4 | h4
    · have : τ = now + 1 := by omega
      subst this
      simp only [Nat.add_sub_cancel] at hg
      rw [he] at hg; cases hg
      omega
    · exact h.ed τ h1 h4 (by omega) g hg ht

/-! ## Chains -/

def iter {α : Type} (f : α → α) : Nat → α → α
  | 0, x => x
  | k + 1, x => f (iter f k x)

theorem iter_add {α : Type} (f : α → α) (i j : Nat) (x : α) : iter f (i + j) x = iter f i (iter f j x) := by
  induction i with
  | zero => simp [iter]
  | succ i ih => rw [show i + 1 + j = (i + j) + 1 by omega]; simp only [iter, ih]

theorem chain_stamp {E : List Ed} {s : Sr} {now : Nat} (h : Inv E s now) (k : Nat) : ∀ j x, j * E.length < s.T x → k ≤ j →
    (j - k) * E.length < s.T (iter s.fr k x) := by
  induction k with
  | zero => intro j x hx _; simpa [iter] using hx
  | succ k ih =>
    intro j x hx hk
    have h1 := ih j x hx (by omega)
    have h2 := (h.pt (iter s.fr k x))
    obtain ⟨i, hi⟩ : ∃ i, j - k = i + 1 := ⟨j - k - 1, by omega⟩
    rw [hi, Nat.succ_mul] at h1
    obtain ⟨e, _, _, hf, _, _, _, hr⟩ := h2.has (by omega)
    have h3 := hr (by omega)
    show (j - (k + 1)) * E.length < s.T (s.fr (iter s.fr k x))
    rw [hf, show j - (k + 1) = i by omega]
    omega

/-- Among n + 1 numbers below n, two are equal. -/
theorem pigeon : ∀ (n : Nat) (f : Nat → Nat), (∀ i, i ≤ n → f i < n) → ∃ i j, i < j ∧ j ≤ n ∧ f i = f j := by
  intro n
  induction n with
  | zero => intro f h; have := h 0 (Nat.le_refl 0); omega
  | succ n ih =>
    intro f h
    by_cases hx : ∃ i, i ≤ n ∧ f i = f (n + 1)
    · obtain ⟨i, hi, he⟩ := hx
      exact ⟨i, n + 1, by omega, Nat.le_refl _, he⟩
    · have hn : ∀ i, i ≤ n → f i ≠ f (n + 1) := fun i hi he => hx ⟨i, hi, he⟩
      -- the last value gives way to n
      let g : Nat → Nat := fun i => if f i = n then f (n + 1) else f i
      have hg : ∀ i, i ≤ n → g i < n := fun i hi => by
        have h1 := h i (by omega)
        have h2 := h (n + 1) (Nat.le_refl _)
        have h3 := hn i hi
        simp only [g]; split <;> omega
      obtain ⟨i, j, hij, hj, he⟩ := ih g hg
      refine ⟨i, j, hij, by omega, ?_⟩
      have h1 := hn i (by omega)
      have h2 := hn j hj
      simp only [g] at he
      split at he <;> split at he <;> omega

/-- The point that `n` steps back lead to lies on a cycle of updated points. -/
theorem on_cycle {E : List Ed} {s : Sr} {now n : Nat} (h : Inv E s now) (hE : In n E) {x : Nat} (hx : n * E.length < s.T x) :
    (∃ p, 0 < p ∧ p ≤ n ∧ iter s.fr p (iter s.fr n x) = iter s.fr n x) ∧ ∀ k, 0 < s.T (iter s.fr k (iter s.fr n x)) := by
  have hpos : ∀ k, k ≤ n → 0 < s.T (iter s.fr k x) := fun k hk => by
    have := chain_stamp h k n x hx hk; omega
  have hlt : ∀ k, k ≤ n → iter s.fr k x < n := fun k hk => by
    obtain ⟨e, he, hb, _⟩ := (h.pt _).has (hpos k hk)
    have := (hE e (List.mem_of_getElem? he)).2
    omega
  obtain ⟨i, j, hij, hj, he⟩ := pigeon n (fun k => iter s.fr k x) hlt
  have hper : ∀ k, i ≤ k → iter s.fr (k + (j - i)) x = iter s.fr k x := fun k hk => by
    rw [show k + (j - i) = (k - i) + j by omega, iter_add, ← he, ← iter_add]
    congr 1; omega
  refine ⟨⟨j - i, by omega, by omega, ?_⟩, fun k => ?_⟩
  · rw [← iter_add, Nat.add_comm]; exact hper n (by omega)
  · have : ∀ k, ∃ m, m ≤ n ∧ iter s.fr k (iter s.fr n x) = iter s.fr m x := by
      intro k
      induction k with
      | zero => exact ⟨n, Nat.le_refl _, rfl⟩
      | succ k ih =>
        obtain ⟨m, hm, hk⟩ := ih
        simp only [iter, hk]
        rcases Nat.lt_or_ge m n with h1 | h1
        · exact ⟨m + 1, h1, rfl⟩
        · have hmn : m = n := by omega
          subst hmn
          refine ⟨m + 1 - (j - i), by omega, ?_⟩
          have := hper (m + 1 - (j - i)) (by omega)
          rw [show m + 1 - (j - i) + (j - i) = m + 1 by omega] at this
          exact this
    obtain ⟨m, hm, hk⟩ := this k
    rw [hk]; exact hpos m hm

/-- The weight of the edge by which a point was updated. -/
def wt (E : List Ed) (s : Sr) (x : Nat) : Int := match E[s.by_ x]? with | some e => e.w | none => 0

/-- Around a cycle of updated points the weights sum to less than 0. -/
theorem cycle_negative {E : List Ed} {s : Sr} {now : Nat} (h : Inv E s now) {c p : Nat} (hp : 0 < p)
    (hc : iter s.fr p c = c) (hT : ∀ k, 0 < s.T (iter s.fr k c)) : sum p (fun k => wt E s (iter s.fr k c)) < 0 := by
  have hstep : ∀ k, s.d (iter s.fr (k+1) c) + wt E s (iter s.fr k c) ≤ s.d (iter s.fr k c) ∧
      s.T (iter s.fr (k+1) c) ≠ s.T (iter s.fr k c) ∧
      (s.T (iter s.fr k c) < s.T (iter s.fr (k+1) c) → s.d (iter s.fr (k+1) c) + wt E s (iter s.fr k c) < s.d (iter s.fr k c)) := fun k => by
    obtain ⟨e, he, hb, hf, hd, hn, hs, _⟩ := (h.pt _).has (hT k)
    have hw : wt E s (iter s.fr k c) = e.w := by simp only [wt, he]
    have hi : iter s.fr (k+1) c = e.a := hf
    rw [hw, hi]
    exact ⟨hd, hn, hs⟩
  have hsum : ∀ m, s.d (iter s.fr m c) + sum m (fun k => wt E s (iter s.fr k c)) ≤ s.d c ∧
      ((∃ k, k < m ∧ s.T (iter s.fr k c) < s.T (iter s.fr (k+1) c)) → s.d (iter s.fr m c) + sum m (fun k => wt E s (iter s.fr k c)) < s.d c) := by
    intro m
    induction m with
    | zero => exact ⟨by simp [sum, iter], fun ⟨k, hk, _⟩ => by omega⟩
    | succ m ih =>
      obtain ⟨h1, h2⟩ := hstep m
      obtain ⟨h3, h4⟩ := ih
      refine ⟨by simp only [sum]; omega, fun ⟨k, hk, hlt⟩ => ?_⟩
      simp only [sum]
      rcases Nat.lt_or_ge k m with h5 | h5
      · have := h4 ⟨k, h5, hlt⟩; omega
      · have : k = m := by omega
        subst this
        have := h2.2 hlt; omega
  have hex : ∃ k, k < p ∧ s.T (iter s.fr k c) < s.T (iter s.fr (k+1) c) := by
    apply Classical.byContradiction
    intro hno
    have hdec : ∀ m, m ≤ p → s.T (iter s.fr m c) + m ≤ s.T c := by
      intro m
      induction m with
      | zero => intro _; simp [iter]
      | succ m ih =>
        intro hm
        have h1 := ih (by omega)
        have h2 := (hstep m).2.1
        have h3 : ¬ s.T (iter s.fr m c) < s.T (iter s.fr (m+1) c) := fun h => hno ⟨m, by omega, h⟩
        omega
    have := hdec p (Nat.le_refl p)
    rw [hc] at this; omega
  have := (hsum p).2 hex
  rw [hc] at this; omega

/-! ## The cycle as a closed walk -/

def edgeAt (E : List Ed) (k : Nat) : Ed := (E[k]?).getD ⟨0, 0, 0⟩

/-- The edges by which the points of the chain were updated, in the order of the walk. -/
def walked (E : List Ed) (s : Sr) (c : Nat) : Nat → List Ed
  | 0 => []
  | p + 1 => edgeAt E (s.by_ (iter s.fr p c)) :: walked E s c p

theorem walked_closed {E : List Ed} {s : Sr} {now : Nat} (h : Inv E s now) {c : Nat} (hT : ∀ k, 0 < s.T (iter s.fr k c)) (p : Nat) :
    follows (iter s.fr p c) (walked E s c p) ∧ endOf (iter s.fr p c) (walked E s c p) = c ∧
      weight (walked E s c p) = sum p (fun k => wt E s (iter s.fr k c)) ∧ ∀ e ∈ walked E s c p, e ∈ E := by
  induction p with
  | zero => exact ⟨trivial, rfl, rfl, fun e he => by cases he⟩
  | succ p ih =>
    obtain ⟨h1, h2, h3, h4⟩ := ih
    obtain ⟨e, he, hb, hf, _⟩ := (h.pt _).has (hT p)
    have hed : edgeAt E (s.by_ (iter s.fr p c)) = e := by simp only [edgeAt, he, Option.getD_some]
    have hw : wt E s (iter s.fr p c) = e.w := by simp only [wt, he]
    simp only [walked, hed, follows, weight, sum, hw]
    refine ⟨⟨hf.symm, by rw [hb]; exact h1⟩, ?_, by omega, fun g hg => ?_⟩
    · show endOf e.b (walked E s c p) = c
      rw [hb]; exact h2
    · rcases List.mem_cons.1 hg with rfl | hg
      · exact List.mem_of_getElem? he
      · exact h4 g hg

theorem walked_eq (E : List Ed) (s : Sr) (c p : Nat) :
    walked E s c p = (((List.range p).map (fun k => s.by_ (iter s.fr k c))).reverse).map (edgeAt E) := by
  induction p with
  | zero => rfl
  | succ p ih => simp only [walked, ih, List.range_succ, List.map_append, List.reverse_append, List.map_cons, List.map_nil, List.reverse_cons, List.reverse_nil, List.nil_append, List.cons_append]

/-- The walk back from the point that n steps lead to, until that point comes again, is a negative cycle. -/
theorem cycle_good {E : List Ed} {s : Sr} {now n : Nat} (h : Inv E s now) (hE : In n E) {x : Nat} (hx : n * E.length < s.T x) {p : Nat}
    (hp : 0 < p) (hc : iter s.fr p (iter s.fr n x) = iter s.fr n x) :
    follows (iter s.fr n x) (walked E s (iter s.fr n x) p) ∧ endOf (iter s.fr n x) (walked E s (iter s.fr n x) p) = iter s.fr n x ∧
      weight (walked E s (iter s.fr n x) p) < 0 ∧ ∀ e ∈ walked E s (iter s.fr n x) p, e ∈ E := by
  have hT := (on_cycle h hE hx).2
  obtain ⟨h1, h2, h3, h4⟩ := walked_closed h hT p
  rw [hc] at h1 h2
  exact ⟨h1, h2, by rw [h3]; exact cycle_negative h hp hc hT, h4⟩

end Go.Kin.St

set_option linter.unusedSectionVars false
set_option linter.unusedVariables false
set_option linter.unusedSimpArgs false
/-! Networks: links and their steps. Plain Lean. -/
namespace Go.Kin.St

structure Lk where
  fr : Int
  to : Int
  lo : Int
  hi : Int
deriving DecidableEq

def up (x : Lk) : Ed := ⟨x.fr.toNat, x.to.toNat, x.hi⟩
def dn (x : Lk) : Ed := ⟨x.to.toNat, x.fr.toNat, - x.lo⟩

/-- The steps of a network, in the program's order. -/
def edges : List Lk → List Ed
  | [] => []
  | x :: l => up x :: dn x :: edges l

/-- ... and in the specification's order. -/
def edges' : List Lk → List Ed
  | [] => []
  | x :: l => dn x :: up x :: edges' l

theorem edges_mem {l : List Lk} {e : Ed} : e ∈ edges l ↔ ∃ x ∈ l, e = up x ∨ e = dn x := by
  induction l with
  | nil => simp [edges]
  | cons x l ih => simp only [edges, List.mem_cons, ih]; grind

theorem edges'_mem {l : List Lk} {e : Ed} : e ∈ edges' l ↔ ∃ x ∈ l, e = up x ∨ e = dn x := by
  induction l with
  | nil => simp [edges']
  | cons x l ih => simp only [edges', List.mem_cons, ih]; grind

theorem edges_len (l : List Lk) : (edges l).length = 2 * l.length := by
  induction l with
  | nil => rfl
  | cons x l ih => simp only [edges, List.length_cons, ih]; omega

theorem edges_up (l : List Lk) (i : Nat) : (edges l)[2 * i]? = (l[i]?).map up := by
  induction l generalizing i with
  | nil => simp [edges]
  | cons x l ih =>
    cases i with
    | zero => simp [edges]
    | succ i =>
      rw [show 2 * (i + 1) = 2 * i + 1 + 1 by omega]
      simp only [edges, List.getElem?_cons_succ, ih]

theorem edges_dn (l : List Lk) (i : Nat) : (edges l)[2 * i + 1]? = (l[i]?).map dn := by
  induction l generalizing i with
  | nil => simp [edges]
  | cons x l ih =>
    cases i with
    | zero => simp [edges]
    | succ i =>
      rw [show 2 * (i + 1) + 1 = 2 * i + 1 + 1 + 1 by omega]
      simp only [edges, List.getElem?_cons_succ, ih]

/-- A link between points below `n`, with its numbers in their bounds. -/
def Lk.Fine (n : Int) (x : Lk) : Prop :=
  0 ≤ x.fr ∧ x.fr < n ∧ 0 ≤ x.to ∧ x.to < n ∧ x.fr ≠ x.to ∧ -1099511627776 ≤ x.lo ∧ x.lo ≤ x.hi ∧ x.hi ≤ 1099511627776

instance (n : Int) (x : Lk) : Decidable (x.Fine n) := by unfold Lk.Fine; exact inferInstance

def Fine (n : Int) (l : List Lk) : Prop := ∀ x ∈ l, x.Fine n

instance (n : Int) (l : List Lk) : Decidable (Fine n l) := by unfold Fine; exact inferInstance

theorem Fine.inE {n : Int} {l : List Lk} (h : Fine n l) : In n.toNat (edges l) := by
  intro e he
  obtain ⟨x, hx, rfl | rfl⟩ := edges_mem.1 he
  all_goals
    have := h x hx
    unfold Lk.Fine at this
    simp only [up, dn]; omega

theorem Fine.loopless {n : Int} {l : List Lk} (h : Fine n l) : Loopless (edges l) := by
  intro e he
  obtain ⟨x, hx, rfl | rfl⟩ := edges_mem.1 he
  all_goals
    have := h x hx
    unfold Lk.Fine at this
    simp only [up, dn]; omega

theorem Fine.weights {n : Int} {l : List Lk} (h : Fine n l) : ∀ e ∈ edges l, -1099511627776 ≤ e.w ∧ e.w ≤ 1099511627776 := by
  intro e he
  obtain ⟨x, hx, rfl | rfl⟩ := edges_mem.1 he
  all_goals
    have := h x hx
    unfold Lk.Fine at this
    simp only [up, dn]; omega

theorem Fine.inE' {n : Int} {l : List Lk} (h : Fine n l) : In n.toNat (edges' l) :=
  fun e he => h.inE e (edges_mem.2 (edges'_mem.1 he))

theorem sol_same (l : List Lk) (t : Nat → Int) : Sol (edges l) t ↔ Sol (edges' l) t :=
  sol_congr (fun _ => by rw [edges_mem, edges'_mem]) t

/-- A schedule, by its definition. -/
theorem sol_links (l : List Lk) (t : Nat → Int) :
    Sol (edges l) t ↔ ∀ x ∈ l, x.lo ≤ t x.to.toNat - t x.fr.toNat ∧ t x.to.toNat - t x.fr.toNat ≤ x.hi := by
  constructor
  · intro h x hx
    have h1 := h (up x) (edges_mem.2 ⟨x, hx, Or.inl rfl⟩)
    have h2 := h (dn x) (edges_mem.2 ⟨x, hx, Or.inr rfl⟩)
    simp only [up, dn] at h1 h2
    omega
  · intro h e he
    obtain ⟨x, hx, rfl | rfl⟩ := edges_mem.1 he
    all_goals
      have := h x hx
      simp only [up, dn]; omega

end Go.Kin.St

set_option linter.unusedSectionVars false
set_option linter.unusedVariables false
set_option linter.unusedSimpArgs false
/-! How far the numbers can go in the loops, and loops as folds over what has come. Plain Lean. -/
namespace Go.Kin.St

def Within (K : Int) (t : Nat → Int) : Prop := ∀ x, -K ≤ t x ∧ t x ≤ K

theorem Within.mono {K M : Int} {t : Nat → Int} (h : Within K t) (hk : K ≤ M) : Within M t := fun x => by have := h x; omega
theorem Within.zero {K : Int} (hK : 0 ≤ K) : Within K (fun _ => 0) := fun _ => by show -K ≤ 0 ∧ 0 ≤ K; omega

theorem Within.upd {K M : Int} {t : Nat → Int} (h : Within K t) (hk : K ≤ M) (i : Nat) {v : Int} (h1 : -M ≤ v) (h2 : v ≤ M) : Within M (upd t i v) := by
  intro x
  have := h x
  simp only [St.upd]
  split <;> omega

theorem raise_within {K W : Int} {t : Nat → Int} {e : Ed} (h : Within K t) (h1 : -W ≤ e.w) (h2 : e.w ≤ W) : Within (K + W) (raise t e) := by
  have ha := h e.a
  have hb := h e.b
  exact h.upd (by omega) _ (by omega) (by omega)

theorem step_within {K W : Int} {s : Sr} {e : Ed} {k now : Nat} (h : Within K s.d) (h1 : -W ≤ e.w) (h2 : e.w ≤ W) : Within (K + W) (s.step e k now).d := by
  have ha := h e.a
  unfold Sr.step
  split
  · exact h.upd (by omega) _ (by omega) (by omega)
  · exact h.mono (by omega)

theorem reach_within {K W : Int} {p : (Nat → Int) × (Nat → Bool)} {e : Ed} (h : Within K p.1) (h1 : -W ≤ e.w) (h2 : e.w ≤ W) : Within (K + W) (reach p e).1 := by
  have ha := h e.a
  unfold reach
  split
  · exact h.upd (by omega) _ (by omega) (by omega)
  · exact h.mono (by omega)

/-- One edge more. -/
theorem fold_take {α β : Type} (f : β → α → β) (b : β) (l : List α) {k : Nat} (hk : k < l.length) :
    (l.take (k + 1)).foldl f b = f ((l.take k).foldl f b) l[k] := by
  rw [List.take_add_one, List.getElem?_eq_getElem hk, List.foldl_append]
  rfl

theorem fold_take_all {α β : Type} (f : β → α → β) (b : β) (l : List α) : (l.take l.length).foldl f b = l.foldl f b := by
  rw [List.take_length]

/-- What has come so far keeps all; with one edge more. -/
theorem sol_take {E : List Ed} {t : Nat → Int} {k : Nat} (h : Sol (E.take k) t) (hk : k < E.length) (he : t E[k].b - t E[k].a ≤ E[k].w) : Sol (E.take (k + 1)) t := by
  intro e hm
  rw [List.take_add_one, List.getElem?_eq_getElem hk] at hm
  rcases List.mem_append.1 hm with h1 | h1
  · exact h e h1
  · simp only [Option.toList_some, List.mem_singleton] at h1
    subst h1; exact he

theorem not_sol {E : List Ed} {t : Nat → Int} {k : Nat} (hk : k < E.length) (he : ¬ t E[k].b - t E[k].a ≤ E[k].w) : ¬ Sol E t :=
  fun h => he (h _ (List.getElem_mem hk))

/-- A later version with a flag: whether a pass changes anything is whether some constraint is broken. -/
def flagged (p : (Nat → Int) × Bool) (e : Ed) : (Nat → Int) × Bool := if p.1 e.a < p.1 e.b - e.w then (upd p.1 e.a (p.1 e.b - e.w), true) else p

theorem flagged_fst (p : (Nat → Int) × Bool) (e : Ed) : (flagged p e).1 = raise p.1 e := by
  unfold flagged
  split
  · unfold raise; rw [Int.max_eq_right (by omega)]
  · funext x; unfold raise St.upd; split
    · rename_i h; subst h; omega
    · rfl

theorem flagged_fold_fst (E : List Ed) (p : (Nat → Int) × Bool) : (E.foldl flagged p).1 = pass E p.1 := by
  induction E generalizing p with
  | nil => rfl
  | cons e E ih => show (E.foldl flagged (flagged p e)).1 = pass E (raise p.1 e); rw [ih, flagged_fst]

theorem flagged_true (E : List Ed) (p : (Nat → Int) × Bool) (h : p.2 = true) : (E.foldl flagged p).2 = true := by
  induction E generalizing p with
  | nil => exact h
  | cons e E ih =>
    refine ih _ ?_
    unfold flagged
    split
    · rfl
    · exact h

theorem flagged_false (E : List Ed) (t : Nat → Int) : (E.foldl flagged (t, false)).2 = false ↔ Sol E t := by
  induction E with
  | nil => simp [Sol]
  | cons e E ih =>
    show (E.foldl flagged (flagged (t, false) e)).2 = false ↔ _
    by_cases hc : t e.a < t e.b - e.w
    · have : flagged (t, false) e = (upd t e.a (t e.b - e.w), true) := by unfold flagged; rw [if_pos hc]
      rw [this, flagged_true _ _ rfl]
      constructor
      · intro h; cases h
      · intro h; have := h e List.mem_cons_self; omega
    · have : flagged (t, false) e = (t, false) := by unfold flagged; rw [if_neg hc]
      rw [this, ih]
      constructor
      · intro h f hf
        rcases List.mem_cons.1 hf with rfl | hf
        · omega
        · exact h f hf
      · intro h f hf; exact h f (List.mem_cons_of_mem _ hf)

end Go.Kin.St

set_option linter.unusedSectionVars false
set_option linter.unusedVariables false
set_option linter.unusedSimpArgs false
/-! What Accepts asks, and what it means. Plain Lean. -/
namespace Go.Kin.St

structure Us where
  link : Int
  lower : Bool
deriving DecidableEq

/-- The step of a use, if there is such a link. -/
def stepOf (l : List Lk) (u : Us) : Option Ed :=
  if 0 ≤ u.link then (l[u.link.toNat]?).map (fun x => if u.lower = true then dn x else up x) else none

/-- The walk along uses: the sum, if each is met and begins where the last ended. -/
def run (l : List Lk) : Nat → Int → List Us → Option Int
  | _, s, [] => some s
  | p, s, u :: us => match stepOf l u with
    | none => none
    | some e => if e.a = p then run l e.b (s + e.w) us else none

/-- Where the last use ends (0 where there is no such link). -/
def lastEnd (l : List Lk) (us : List Us) : Nat := match us.getLast? with
  | none => 0
  | some u => match stepOf l u with
    | none => 0
    | some e => e.b

def accepts (l : List Lk) (us : List Us) : Bool := match run l (lastEnd l us) 0 us with
  | none => false
  | some s => decide (s < 0)

theorem stepOf_mem {l : List Lk} {u : Us} {e : Ed} (h : stepOf l u = some e) : e ∈ edges l := by
  unfold stepOf at h
  split at h
  · cases hx : l[u.link.toNat]? with
    | none => rw [hx] at h; cases h
    | some x =>
      rw [hx] at h
      simp only [Option.map_some, Option.some.injEq] at h
      refine edges_mem.2 ⟨x, List.mem_of_getElem? hx, ?_⟩
      subst h
      split
      · exact .inr rfl
      · exact .inl rfl
  · cases h

theorem run_some {l : List Lk} {us : List Us} {p : Nat} {s r : Int} (h : run l p s us = some r) :
    ∃ E, us.map (stepOf l) = E.map some ∧ (∀ e ∈ E, e ∈ edges l) ∧ follows p E ∧ r = s + weight E := by
  induction us generalizing p s with
  | nil =>
    simp only [run, Option.some.injEq] at h
    exact ⟨[], rfl, fun e he => (by cases he), trivial, by simp [weight, h]⟩
  | cons u us ih =>
    simp only [run] at h
    cases hu : stepOf l u with
    | none => rw [hu] at h; cases h
    | some e =>
      rw [hu] at h
      simp only at h
      by_cases hp : e.a = p
      · rw [if_pos hp] at h
        obtain ⟨E, h1, h2, h3, h4⟩ := ih h
        refine ⟨e :: E, by simp only [List.map_cons, hu, h1], fun f hf => ?_, ⟨hp, h3⟩, by simp only [weight]; omega⟩
        rcases List.mem_cons.1 hf with rfl | hf
        · exact stepOf_mem hu
        · exact h2 f hf
      · rw [if_neg hp] at h; cases h

theorem run_of {l : List Lk} {us : List Us} {E : List Ed} {p : Nat} {s : Int} (h : us.map (stepOf l) = E.map some) (hf : follows p E) :
    run l p s us = some (s + weight E) := by
  induction us generalizing p s E with
  | nil =>
    cases E with
    | nil => simp [run, weight]
    | cons e E => cases h
  | cons u us ih =>
    cases E with
    | nil => cases h
    | cons e E =>
      simp only [List.map_cons, List.cons.injEq] at h
      obtain ⟨h1, h2⟩ := h
      obtain ⟨h3, h4⟩ := hf
      simp only [run, h1, h3, if_true, weight]
      rw [ih h2 h4]
      congr 1; omega

theorem endOf_last {E : List Ed} {p : Nat} {e : Ed} (h : E.getLast? = some e) : endOf p E = e.b := by
  induction E generalizing p with
  | nil => cases h
  | cons f E ih =>
    cases E with
    | nil => simp only [List.getLast?_singleton, Option.some.injEq] at h; subst h; rfl
    | cons g E =>
      rw [List.getLast?_cons_cons] at h
      exact ih (p := f.b) h

theorem lastEnd_eq {l : List Lk} {us : List Us} {E : List Ed} (h : us.map (stepOf l) = E.map some) (hne : us ≠ []) (p : Nat) :
    lastEnd l us = endOf p E := by
  have h1 : (us.map (stepOf l)).getLast? = (E.map some).getLast? := by rw [h]
  rw [List.getLast?_map, List.getLast?_map] at h1
  unfold lastEnd
  cases hu : us.getLast? with
  | none => exact absurd (List.getLast?_eq_none_iff.1 hu) hne
  | some u =>
    rw [hu] at h1
    cases he : E.getLast? with
    | none => rw [he] at h1; cases h1
    | some e =>
      rw [he] at h1
      simp only [Option.map_some, Option.some.injEq] at h1
      simp only [h1]
      rw [endOf_last he]

/-- Whatever is accepted leaves no schedule. -/
theorem accepts_none {l : List Lk} {us : List Us} (hne : us ≠ []) (h : accepts l us = true) (t : Nat → Int) : ¬ Sol (edges l) t := by
  unfold accepts at h
  cases hr : run l (lastEnd l us) 0 us with
  | none => rw [hr] at h; cases h
  | some s =>
    rw [hr] at h
    simp only [decide_eq_true_eq] at h
    obtain ⟨E, h1, h2, h3, h4⟩ := run_some hr
    exact closed_none h3 (lastEnd_eq h1 hne _).symm (by omega) h2 t

/-- A closed walk of negative weight is accepted. -/
theorem accepts_of {l : List Lk} {us : List Us} {E : List Ed} {p : Nat} (h : us.map (stepOf l) = E.map some) (hne : us ≠ []) (hf : follows p E)
    (he : endOf p E = p) (hw : weight E < 0) : accepts l us = true := by
  unfold accepts
  rw [lastEnd_eq h hne p, he, run_of h hf]
  simp only [decide_eq_true_eq]; omega

/-- The use of the edge with the number k. -/
def useOf (k : Nat) : Us := ⟨(k / 2 : Nat), decide (k % 2 = 1)⟩

theorem stepOf_useOf (l : List Lk) (k : Nat) : stepOf l (useOf k) = (edges l)[k]? := by
  unfold stepOf useOf
  simp only [Int.natCast_nonneg, if_true, Int.toNat_natCast, decide_eq_true_eq]
  rcases Nat.mod_two_eq_zero_or_one k with h | h
  · have hk : k = 2 * (k / 2) := by omega
    rw [show (edges l)[k]? = (edges l)[2 * (k / 2)]? by rw [← hk], edges_up]
    simp [h]
  · have hk : k = 2 * (k / 2) + 1 := by omega
    rw [show (edges l)[k]? = (edges l)[2 * (k / 2) + 1]? by rw [← hk], edges_dn]
    simp [h]

/-- In the specification: all links are there, and then the walk. -/
def known (l : List Lk) (us : List Us) : Bool := us.all (fun u => decide (0 ≤ u.link) && decide (u.link < l.length))

theorem stepOf_known {l : List Lk} {u : Us} : (stepOf l u).isSome = (decide (0 ≤ u.link) && decide (u.link < l.length)) := by
  unfold stepOf
  by_cases h : 0 ≤ u.link
  · by_cases h2 : u.link < l.length
    · rw [if_pos h, List.getElem?_eq_getElem (by omega)]; simp [h, h2]
    · rw [if_pos h, List.getElem?_eq_none (by omega)]; simp [h2]
  · rw [if_neg h]; simp [h]

theorem accepts_known {l : List Lk} {us : List Us} (h : known l us = false) : accepts l us = false := by
  unfold accepts
  have : ∀ p s, run l p s us = none := by
    unfold known at h
    induction us with
    | nil => cases h
    | cons u us ih =>
      intro p s
      simp only [run]
      cases hu : stepOf l u with
      | none => rfl
      | some e =>
        simp only
        split
        · refine ih ?_ _ _
          have h1 : (stepOf l u).isSome = true := by rw [hu]; rfl
          rw [stepOf_known] at h1
          simpa only [List.all_cons, h1, Bool.true_and] using h
        · rfl
  rw [this]

end Go.Kin.St

set_option linter.unusedSectionVars false
set_option linter.unusedVariables false
set_option linter.unusedSimpArgs false
namespace Go.Kin.Ct
open Go.Kin.St
/-- a called link that is right by itself -/
def Cal (n : Int) (x : Lk) : Prop := 0 ≤ x.fr ∧ x.fr < n ∧ 0 ≤ x.to ∧ x.to < n ∧ x.fr ≠ x.to ∧ 0 ≤ x.lo ∧ x.lo ≤ x.hi ∧ x.hi ≤ 1099511627776
instance (n : Int) (x : Lk) : Decidable (Cal n x) := by unfold Cal; infer_instance
/-- the called link to a point -/
def into : List Lk → Int → Option Nat
  | [], _ => none
  | x :: C, p => if x.to = p then some 0 else (into C p).map (· + 1)
theorem into_some {C : List Lk} {p : Int} {i : Nat} : into C p = some i → ∃ x, C[i]? = some x ∧ x.to = p := by
  induction C generalizing i with
  | nil => intro h; cases h
  | cons x C ih =>
    intro h
    rw [into] at h
    split at h
    · rename_i e
      cases h
      exact ⟨x, rfl, e⟩
    · cases hj : into C p with
      | none => rw [hj] at h; cases h
      | some j =>
        rw [hj] at h
        cases h
        exact ih hj
theorem into_none {C : List Lk} {p : Int} (h : into C p = none) : ∀ x ∈ C, x.to ≠ p := by
  induction C with
  | nil => intro x hx; cases hx
  | cons y C ih =>
    rw [into] at h
    split at h
    · cases h
    · rename_i e
      intro x hx
      rcases List.mem_cons.1 hx with rfl | hx
      · exact e
      · cases hj : into C p with
        | none => exact ih hj x hx
        | some j => rw [hj] at h; cases h
theorem into_lt {C : List Lk} {p : Int} {i : Nat} (h : into C p = some i) : i < C.length := by
  obtain ⟨x, hx, _⟩ := into_some h
  exact (List.getElem?_eq_some_iff.1 hx).1
/-- where a called link begins -/
def frm (C : List Lk) (i : Nat) : Int := match C[i]? with | some x => x.fr | none => 0
/-- up to the root, in so many steps at most: the links passed, and the point that is reached -/
def climb (C : List Lk) : Nat → Int → List Nat × Int
  | 0, p => ([], p)
  | f + 1, p => match into C p with
    | none => ([], p)
    | some i => (i :: (climb C f (frm C i)).1, (climb C f (frm C i)).2)
theorem climb_none {C : List Lk} {p : Int} (h : into C p = none) : ∀ f, climb C f p = ([], p)
  | 0 => rfl
  | f + 1 => by rw [climb, h]
theorem climb_some {C : List Lk} {p : Int} {i : Nat} (h : into C p = some i) (f : Nat) : climb C (f + 1) p = (i :: (climb C f (frm C i)).1, (climb C f (frm C i)).2) := by rw [climb, h]
theorem climb_len (C : List Lk) : ∀ f p, (climb C f p).1.length ≤ f
  | 0, p => Nat.le_refl _
  | f + 1, p => by
    cases h : into C p with
    | none => rw [climb_none h]; exact Nat.zero_le _
    | some i => rw [climb_some h]; have := climb_len C f (frm C i); simp only [List.length_cons]; omega
theorem climb_stop {C : List Lk} : ∀ {f : Nat} {p : Int}, into C (climb C f p).2 = none → ∀ g, climb C (f + g) p = climb C f p
  | 0, p, h, g => climb_none h _
  | f + 1, p, h, g => by
    cases hi : into C p with
    | none => rw [climb_none hi, climb_none hi]
    | some i =>
      rw [climb_some hi] at h ⊢
      rw [show f + 1 + g = (f + g) + 1 by omega, climb_some hi, climb_stop (f := f) h g]
theorem climb_in {n : Int} {C : List Lk} (hC : ∀ x ∈ C, Cal n x) : ∀ (f : Nat) (p : Int), 0 ≤ p → p < n → 0 ≤ (climb C f p).2 ∧ (climb C f p).2 < n
  | 0, p, h0, h1 => ⟨h0, h1⟩
  | f + 1, p, h0, h1 => by
    cases hi : into C p with
    | none => rw [climb_none hi]; exact ⟨h0, h1⟩
    | some i =>
      rw [climb_some hi]
      obtain ⟨x, hx, _⟩ := into_some hi
      have hc := hC x (List.mem_of_getElem? hx)
      have hf : frm C i = x.fr := by unfold frm; rw [hx]
      exact climb_in hC f _ (by rw [hf]; exact hc.1) (by rw [hf]; exact hc.2.1)
theorem climb_mem {C : List Lk} : ∀ (f : Nat) (p : Int), ∀ i ∈ (climb C f p).1, i < C.length
  | 0, p, i, h => by cases h
  | f + 1, p, i, h => by
    cases hi : into C p with
    | none => rw [climb_none hi] at h; cases h
    | some j =>
      rw [climb_some hi] at h
      rcases List.mem_cons.1 h with rfl | h
      · exact into_lt hi
      · exact climb_mem f _ i h
/-- the called links are right -/
structure Tree (n : Nat) (C : List Lk) : Prop where
  cal : ∀ x ∈ C, Cal n x
  one : ∀ i x, C[i]? = some x → into C x.to = some i
  ends : ∀ p : Nat, p < n → into C (climb C n p).2 = none
/-- the links that lead to a point, the nearest one first, and its root -/
def chain (C : List Lk) (n : Nat) (p : Int) : List Nat := (climb C n p).1
def root (C : List Lk) (n : Nat) (p : Int) : Int := (climb C n p).2
theorem Tree.up {n : Nat} {C : List Lk} (h : Tree n C) {p : Nat} (hp : p < n) {i : Nat} (hi : into C p = some i) : ∃ q : Nat, q < n ∧ frm C i = q ∧ chain C n p = i :: chain C n q ∧ root C n p = root C n q := by
  obtain ⟨x, hx, hxp⟩ := into_some hi
  have hc := h.cal x (List.mem_of_getElem? hx)
  have hf : frm C i = x.fr := by unfold frm; rw [hx]
  have hc1 := hc.1
  have hc2 := hc.2.1
  refine ⟨x.fr.toNat, by omega, by rw [hf]; omega, ?_⟩
  have hq : ((x.fr.toNat : Nat) : Int) = frm C i := by rw [hf]; omega
  obtain ⟨f, rfl⟩ : ∃ f, n = f + 1 := ⟨n - 1, by omega⟩
  have he := h.ends p hp
  rw [climb_some hi] at he
  have hs := climb_stop he 1
  unfold chain root
  rw [climb_some hi, hq, hs]
  exact ⟨rfl, rfl⟩
theorem Tree.top {n : Nat} {C : List Lk} {p : Int} (hi : into C p = none) : chain C n p = [] ∧ root C n p = p := by
  unfold chain root
  rw [climb_none hi]
  exact ⟨rfl, rfl⟩
theorem Tree.root_in {n : Nat} {C : List Lk} (h : Tree n C) {p : Nat} (hp : p < n) : ∃ r : Nat, r < n ∧ root C n p = r ∧ into C (r : Int) = none := by
  have h1 := climb_in h.cal n p (by omega) (by omega)
  refine ⟨(root C n p).toNat, ?_, ?_, ?_⟩
  · unfold root; omega
  · unfold root; omega
  · have h2 := h.ends p hp
    have h3 : (((root C n p).toNat : Nat) : Int) = (climb C n p).2 := by unfold root; omega
    rw [h3]; exact h2
theorem Tree.chain_lt {n : Nat} {C : List Lk} {p : Int} : ∀ i ∈ chain C n p, i < C.length := climb_mem n p
/-- links further up end in points that are less deep -/
theorem Tree.deep {n : Nat} {C : List Lk} (h : Tree n C) : ∀ (k : Nat) {p : Nat}, p < n → (chain C n p).length = k → ∀ i ∈ chain C n p, ∃ q : Nat, q < n ∧ into C q = some i ∧ (chain C n q).length ≤ k
  | 0, p, hp, hk, i, hi => by rw [List.length_eq_zero_iff.1 hk] at hi; cases hi
  | k + 1, p, hp, hk, i, hi => by
    cases hin : into C p with
    | none => rw [(Tree.top hin).1] at hi; cases hi
    | some j =>
      obtain ⟨q, hq, hf, hc, hr⟩ := h.up hp hin
      rw [hc] at hi
      rcases List.mem_cons.1 hi with rfl | hi
      · exact ⟨p, hp, hin, by omega⟩
      · obtain ⟨r, h1, h2, h3⟩ := h.deep k hq (by rw [hc] at hk; simpa using hk) i hi
        exact ⟨r, h1, h2, by omega⟩
theorem Tree.nodup {n : Nat} {C : List Lk} (h : Tree n C) : ∀ (k : Nat) {p : Nat}, p < n → (chain C n p).length = k → (chain C n p).Nodup
  | 0, p, hp, hk => by rw [List.length_eq_zero_iff.1 hk]; exact List.nodup_nil
  | k + 1, p, hp, hk => by
    cases hin : into C p with
    | none => rw [(Tree.top hin).1]; exact List.nodup_nil
    | some j =>
      obtain ⟨q, hq, hf, hc, hr⟩ := h.up hp hin
      have hk2 : (chain C n q).length = k := by rw [hc] at hk; simpa using hk
      rw [hc]
      refine List.nodup_cons.2 ⟨fun hm => ?_, h.nodup k hq hk2⟩
      obtain ⟨r, h1, h2, h3⟩ := h.deep k hq hk2 j hm
      obtain ⟨x, hx, hxr⟩ := into_some h2
      obtain ⟨y, hy, hyp⟩ := into_some hin
      rw [hx] at hy
      cases hy
      have : r = p := by omega
      subst this
      omega
/-! ## Sums -/
def lsum (f : Nat → Int) : List Nat → Int
  | [] => 0
  | i :: l => f i + lsum f l
theorem lsum_app (f : Nat → Int) : ∀ l m, lsum f (l ++ m) = lsum f l + lsum f m
  | [], m => by show lsum f m = 0 + _; omega
  | i :: l, m => by rw [List.cons_append, lsum, lsum, lsum_app f l m]; omega
theorem lsum_rev (f : Nat → Int) : ∀ l : List Nat, lsum f l.reverse = lsum f l
  | [] => rfl
  | i :: l => by rw [List.reverse_cons, lsum_app, lsum_rev f l]; simp only [lsum]; omega
theorem sum_add (n : Nat) (f g : Nat → Int) : sum n (fun i => f i + g i) = sum n f + sum n g := by
  induction n with
  | zero => rfl
  | succ n ih => simp only [sum, ih]; omega
theorem sum_congr {n : Nat} {f g : Nat → Int} (h : ∀ i, i < n → f i = g i) : sum n f = sum n g := by
  induction n with
  | zero => rfl
  | succ n ih => simp only [sum]; rw [ih fun i hi => h i (by omega), h n (by omega)]
theorem sum_zero (n : Nat) : sum n (fun _ => 0) = 0 := by
  induction n with
  | zero => rfl
  | succ n ih => simp only [sum, ih]; omega
theorem sum_single {n i : Nat} (hi : i < n) (v : Int) : sum n (fun j => if j = i then v else 0) = v := by
  induction n with
  | zero => omega
  | succ n ih =>
    simp only [sum]
    by_cases e : i = n
    · subst e
      rw [if_pos rfl, sum_congr (g := fun _ => 0) fun j hj => if_neg (by omega), sum_zero]; omega
    · rw [ih (by omega), if_neg (fun h => e h.symm)]; omega
theorem lsum_sum (f : Nat → Int) {m : Nat} : ∀ l : List Nat, l.Nodup → (∀ i ∈ l, i < m) → lsum f l = sum m (fun i => if i ∈ l then f i else 0)
  | [], _, _ => by simp only [lsum]; rw [sum_congr (g := fun _ => 0) fun i _ => if_neg (by simp), sum_zero]
  | a :: l, hn, hm => by
    rw [List.nodup_cons] at hn
    rw [lsum, lsum_sum f l hn.2 fun i hi => hm i (List.mem_cons_of_mem _ hi), ← sum_single (n := m) (hm a List.mem_cons_self) (f a), ← sum_add]
    refine sum_congr fun i _ => ?_
    by_cases e : i = a
    · subst e; rw [if_pos rfl, if_neg hn.1, if_pos List.mem_cons_self]; omega
    · rw [if_neg e]
      by_cases h : i ∈ l
      · rw [if_pos h, if_pos (List.mem_cons_of_mem _ h)]; omega
      · rw [if_neg h, if_neg (fun h2 => by rcases List.mem_cons.1 h2 with h2 | h2; exact e h2; exact h h2)]; omega
/-! ## Gaps -/
def hiOf (C : List Lk) (i : Nat) : Int := match C[i]? with | some x => x.hi | none => 0
def loOf (C : List Lk) (i : Nat) : Int := match C[i]? with | some x => x.lo | none => 0
/-- what a called link adds, at most, between two points with these chains -/
def gapT (C : List Lk) (a b : List Nat) (i : Nat) : Int := if i ∈ b ∧ i ∉ a then hiOf C i else if i ∈ a ∧ i ∉ b then - loOf C i else 0
def gap (C : List Lk) (n : Nat) (p q : Int) : Int := sum C.length (gapT C (chain C n p) (chain C n q))
/-- as the specification sums it -/
theorem gap_lists {C : List Lk} {a b : List Nat} (ha : a.Nodup) (hb : b.Nodup) (ha2 : ∀ i ∈ a, i < C.length) (hb2 : ∀ i ∈ b, i < C.length) :
    lsum (fun i => if i ∈ a then 0 else hiOf C i) b + lsum (fun i => if i ∈ b then 0 else - loOf C i) a = sum C.length (gapT C a b) := by
  rw [lsum_sum _ b hb hb2, lsum_sum _ a ha ha2, ← sum_add]
  refine sum_congr fun i _ => ?_
  unfold gapT
  by_cases h1 : i ∈ a <;> by_cases h2 : i ∈ b <;> simp [h1, h2]
/-- the time of a point, with durations -/
def at_ (C : List Lk) (n : Nat) (t d : Nat → Int) (p : Int) : Int := t (root C n p).toNat + lsum d (chain C n p)
def Durs (C : List Lk) (d : Nat → Int) : Prop := ∀ i, i < C.length → loOf C i ≤ d i ∧ d i ≤ hiOf C i
theorem diff_eq {n : Nat} {C : List Lk} (h : Tree n C) {t d : Nat → Int} {p q : Nat} (hp : p < n) (hq : q < n) :
    at_ C n t d q - at_ C n t d p = t (root C n q).toNat - t (root C n p).toNat + sum C.length (fun i => (if i ∈ chain C n q then d i else 0) + (if i ∈ chain C n p then - d i else 0)) := by
  unfold at_
  rw [lsum_sum d _ (h.nodup _ hq rfl) Tree.chain_lt, lsum_sum d _ (h.nodup _ hp rfl) Tree.chain_lt, sum_add]
  have : sum C.length (fun i => if i ∈ chain C n p then - d i else 0) = - sum C.length (fun i => if i ∈ chain C n p then d i else 0) := by
    have h0 := sum_add C.length (fun i => if i ∈ chain C n p then - d i else 0) (fun i => if i ∈ chain C n p then d i else 0)
    rw [sum_congr (g := fun _ => 0) fun i _ => by split <;> omega, sum_zero] at h0
    omega
  omega
/-- between two points it is never more than the gap -/
theorem diff_le {n : Nat} {C : List Lk} (h : Tree n C) {t d : Nat → Int} (hd : Durs C d) {p q : Nat} (hp : p < n) (hq : q < n) :
    at_ C n t d q - at_ C n t d p ≤ t (root C n q).toNat - t (root C n p).toNat + gap C n p q := by
  rw [diff_eq h hp hq]
  have : sum C.length (fun i => (if i ∈ chain C n q then d i else 0) + (if i ∈ chain C n p then - d i else 0)) ≤ gap C n p q := by
    refine sum_le fun i hi => ?_
    have := hd i hi
    unfold gapT
    by_cases h1 : i ∈ chain C n p <;> by_cases h2 : i ∈ chain C n q <;> simp [h1, h2] <;> omega
  omega
/-- and it is as much, with the durations that are chosen so -/
def worst (C : List Lk) (n : Nat) (p q : Int) (i : Nat) : Int := if i ∈ chain C n q ∧ i ∉ chain C n p then hiOf C i else loOf C i
theorem diff_worst {n : Nat} {C : List Lk} (h : Tree n C) {t : Nat → Int} {p q : Nat} (hp : p < n) (hq : q < n) :
    at_ C n t (worst C n p q) q - at_ C n t (worst C n p q) p = t (root C n q).toNat - t (root C n p).toNat + gap C n p q := by
  rw [diff_eq h hp hq]
  have : sum C.length (fun i => (if i ∈ chain C n q then worst C n p q i else 0) + (if i ∈ chain C n p then - worst C n p q i else 0)) = gap C n p q := by
    refine sum_congr fun i hi => ?_
    unfold gapT worst
    by_cases h1 : i ∈ chain C n p <;> by_cases h2 : i ∈ chain C n q <;> simp [h1, h2] <;> omega
  omega
theorem cal_of {n : Nat} {C : List Lk} (h : Tree n C) {i : Nat} (hi : i < C.length) : 0 ≤ loOf C i ∧ loOf C i ≤ hiOf C i ∧ hiOf C i ≤ 1099511627776 := by
  have hx := List.getElem?_eq_getElem hi
  have hc := h.cal _ (List.getElem_mem hi)
  unfold loOf hiOf
  rw [hx]
  exact ⟨hc.2.2.2.2.2.1, hc.2.2.2.2.2.2.1, hc.2.2.2.2.2.2.2⟩
theorem worst_durs {n : Nat} {C : List Lk} (h : Tree n C) (p q : Int) : Durs C (worst C n p q) := fun i hi => by
  have := cal_of h hi
  unfold worst
  split <;> omega
theorem sum_bd {m : Nat} {f : Nat → Int} {K : Int} (h : ∀ i, i < m → -K ≤ f i ∧ f i ≤ K) : -(K * m) ≤ sum m f ∧ sum m f ≤ K * m := by
  induction m with
  | zero => simp [sum]
  | succ m ih =>
    have h1 := ih fun i hi => h i (by omega)
    have h2 := h m (by omega)
    simp only [sum]
    have h3 : K * ((m + 1 : Nat) : Int) = K * m + K := by rw [Int.natCast_succ, Int.mul_add, Int.mul_one]
    omega
theorem gapT_bd {n : Nat} {C : List Lk} (h : Tree n C) (a b : List Nat) {i : Nat} (hi : i < C.length) : -1099511627776 ≤ gapT C a b i ∧ gapT C a b i ≤ 1099511627776 := by
  have := cal_of h hi
  unfold gapT
  split
  · omega
  · split <;> omega
theorem gap_bd {n : Nat} {C : List Lk} (h : Tree n C) (p q : Int) : -(1099511627776 * (C.length : Int)) ≤ gap C n p q ∧ gap C n p q ≤ 1099511627776 * (C.length : Int) := sum_bd fun i hi => gapT_bd h _ _ hi
end Go.Kin.Ct

set_option linter.unusedSectionVars false
set_option linter.unusedVariables false
set_option linter.unusedSimpArgs false
namespace Go.Kin.St

/-- the state behind `m` edges -/
def srSt (E : List Ed) : Nat → Sr
  | 0 => ⟨fun _ => 0, fun _ => 0, fun _ => 0, fun _ => 0⟩
  | m + 1 => (srSt E m).step (edgeAt E (m % E.length)) (m % E.length) (m + 1)

theorem sr_inv {E : List Ed} (hl : Loopless E) (h0 : 0 < E.length) (m : Nat) : Inv E (srSt E m) m := by
  induction m with
  | zero => exact Inv.start E _ _
  | succ m ih =>
    have hlt : m % E.length < E.length := Nat.mod_lt _ h0
    have he : E[m % E.length]? = some (edgeAt E (m % E.length)) := by
      unfold edgeAt; rw [List.getElem?_eq_getElem hlt]; rfl
    exact ih.next hl he

theorem sr_within {E : List Ed} {W : Int} (hW : 0 ≤ W) (hw : ∀ e ∈ E, -W ≤ e.w ∧ e.w ≤ W) (m : Nat) : Within (W * m) (srSt E m).d := by
  induction m with
  | zero => exact Within.zero (by omega)
  | succ m ih =>
    have h : -W ≤ (edgeAt E (m % E.length)).w ∧ (edgeAt E (m % E.length)).w ≤ W := by
      unfold edgeAt
      cases hk : E[m % E.length]? with
      | none => simp only [Option.getD_none]; omega
      | some e => exact hw e (List.mem_of_getElem? hk)
    have := step_within (k := m % E.length) (now := m + 1) ih h.1 h.2
    exact this.mono (by rw [show ((m + 1 : Nat) : Int) = m + 1 by omega, Int.mul_add]; omega)

theorem sr_from {E : List Ed} {n : Nat} (hn : 0 < n) (hE : In n E) (m x : Nat) : (srSt E m).fr x < n := by
  induction m with
  | zero => exact hn
  | succ m ih =>
    have h : (edgeAt E (m % E.length)).a < n := by
      unfold edgeAt
      cases hk : E[m % E.length]? with
      | none => exact hn
      | some e => exact (hE e (List.mem_of_getElem? hk)).1
    simp only [srSt, Sr.step]
    split
    · simp only [upd]; split
      · exact h
      · exact ih
    · exact ih

theorem sr_next {E : List Ed} {r k : Nat} {e : Ed} (hk : E[k]? = some e) : srSt E (r * E.length + k + 1) = (srSt E (r * E.length + k)).step e k (r * E.length + k + 1) := by
  have hlt := (List.getElem?_eq_some_iff.1 hk).1
  have hm : (r * E.length + k) % E.length = k := by
    rw [Nat.mul_comm, Nat.mul_add_mod]; exact Nat.mod_eq_of_lt hlt
  have he : edgeAt E k = e := by unfold edgeAt; rw [hk]; rfl
  simp only [srSt, hm, he]

theorem iter_lt {f : Nat → Nat} {n : Nat} (hf : ∀ x, f x < n) {x : Nat} (hx : x < n) (k : Nat) : iter f k x < n := by
  cases k with
  | zero => exact hx
  | succ k => exact hf _

theorem iter_succ' {α : Type} (f : α → α) (k : Nat) (x : α) : iter f (k + 1) x = f (iter f k x) := rfl

/-- The first return. -/
theorem first_back {f : Nat → Nat} {c n : Nat} (h : ∃ p, 0 < p ∧ p ≤ n ∧ iter f p c = c) : ∃ p, 0 < p ∧ p ≤ n ∧ iter f p c = c ∧ ∀ q, 0 < q → q < p → iter f q c ≠ c := by
  obtain ⟨p, h1, h2, h3⟩ := h
  induction p using Nat.strongRecOn with
  | _ p ih =>
    by_cases hq : ∃ q, 0 < q ∧ q < p ∧ iter f q c = c
    · obtain ⟨q, q1, q2, q3⟩ := hq
      exact ih q q2 q1 (by omega) q3
    · exact ⟨p, h1, h2, h3, fun q q1 q2 q3 => hq ⟨q, q1, q2, q3⟩⟩

theorem range_reverse {α : Type} (g : Nat → α) (P : Nat) : (List.range P).map (fun j => g (P - 1 - j)) = ((List.range P).map g).reverse := by
  apply List.ext_getElem?
  intro j
  by_cases hj : j < P
  · rw [List.getElem?_reverse (by simpa using hj)]
    simp only [List.getElem?_map, List.length_map, List.length_range]
    rw [List.getElem?_range hj, List.getElem?_range (by omega)]; rfl
  · rw [List.getElem?_eq_none (by simp; omega), List.getElem?_eq_none (by simp; omega)]

theorem refute_aux {l : List Lk} {S : Sr} {m c P : Nat} (hI : Inv (edges l) S m) (hT : ∀ k, 0 < S.T (iter S.fr k c)) (hP : 0 < P) (g1 : follows c (walked (edges l) S c P)) (g2 : endOf c (walked (edges l) S c P) = c) (g3 : weight (walked (edges l) S c P) < 0) :
    accepts l ((List.range P).map (fun j => useOf (S.by_ (iter S.fr (P - 1 - j) c)))) = true := by
  rw [range_reverse (fun j => useOf (S.by_ (iter S.fr j c))) P]
  refine accepts_of (E := walked (edges l) S c P) (p := c) ?_ ?_ g1 g2 g3
  · rw [walked_eq, List.map_reverse, List.map_map, List.map_reverse, List.map_reverse, List.map_map, List.map_map]
    congr 1
    apply List.map_congr_left
    intro j _
    obtain ⟨e, he, _⟩ := (hI.pt _).has (hT j)
    simp only [Function.comp_apply, stepOf_useOf, he, edgeAt, Option.getD_some]
  · intro h
    have := congrArg List.length h
    simp at this; omega

/-- What is found. -/
theorem refute_good {l : List Lk} {n : Nat} (hF : Fine n l) (h0 : 0 < (edges l).length) {m x P : Nat} (hx : n * (edges l).length < (srSt (edges l) m).T x) (hP : 0 < P)
    (hc : iter (srSt (edges l) m).fr P (iter (srSt (edges l) m).fr n x) = iter (srSt (edges l) m).fr n x) :
    accepts l ((List.range P).map (fun j => useOf ((srSt (edges l) m).by_ (iter (srSt (edges l) m).fr (P - 1 - j) (iter (srSt (edges l) m).fr n x))))) = true ∧ ∀ t, ¬ Sol (edges l) t := by
  have hI := sr_inv hF.loopless h0 m
  have hE : In n (edges l) := by simpa using hF.inE
  obtain ⟨g1, g2, g3, g4⟩ := cycle_good hI hE hx hP hc
  exact ⟨refute_aux hI (on_cycle hI hE hx).2 hP g1 g2 g3, fun t => closed_none g1 g2 g3 g4 t⟩

theorem no_change {E : List Ed} {d : Nat → Int} (h : ∀ e ∈ E, ¬ d e.a + e.w < d e.b) : Sol E d := fun e he => by have := h e he; omega
end Go.Kin.St

set_option linter.unusedSectionVars false
set_option linter.unusedVariables false
set_option linter.unusedSimpArgs false
namespace Go.Kin.Ct
open Go.Kin.St
/-- a link, from root to root -/
def redL (C : List Lk) (n : Nat) (x : Lk) : Lk := ⟨root C n x.fr, root C n x.to, x.lo + gap C n x.to x.fr, x.hi - gap C n x.fr x.to⟩
def net (C : List Lk) (n : Nat) (L : List Lk) : List Lk := L.map (redL C n)
def redE (C : List Lk) (n : Nat) (L : List Lk) : List Ed := edges (net C n L)
theorem net_len {C : List Lk} {n : Nat} {L : List Lk} : (net C n L).length = L.length := List.length_map ..
theorem redE_len {C : List Lk} {n : Nat} {L : List Lk} : (redE C n L).length = 2 * L.length := by unfold redE; rw [edges_len, net_len]
/-- one side of a link -/
def sideP (u : Bool) (x : Lk) : Int := if u = true then x.to else x.fr
def sideQ (u : Bool) (x : Lk) : Int := if u = true then x.fr else x.to
def sideW (u : Bool) (x : Lk) : Int := if u = true then - x.lo else x.hi
def redS (C : List Lk) (n : Nat) (u : Bool) (x : Lk) : Ed := ⟨(root C n (sideP u x)).toNat, (root C n (sideQ u x)).toNat, sideW u x - gap C n (sideP u x) (sideQ u x)⟩
theorem redS_up (C : List Lk) (n : Nat) (x : Lk) : redS C n false x = up (redL C n x) := rfl
theorem redS_dn (C : List Lk) (n : Nat) (x : Lk) : redS C n true x = dn (redL C n x) := by
  unfold redS redL dn sideP sideQ sideW
  simp only [if_pos]
  congr 1
  omega
theorem redE_mem {C : List Lk} {n : Nat} {L : List Lk} {e : Ed} : e ∈ redE C n L ↔ ∃ x ∈ L, ∃ u, e = redS C n u x := by
  unfold redE
  rw [edges_mem]
  constructor
  · rintro ⟨y, hy, h⟩
    obtain ⟨x, hx, rfl⟩ := List.mem_map.1 hy
    rcases h with h | h
    · exact ⟨x, hx, false, h.trans (redS_up C n x).symm⟩
    · exact ⟨x, hx, true, h.trans (redS_dn C n x).symm⟩
  · rintro ⟨x, hx, u, rfl⟩
    refine ⟨_, List.mem_map.2 ⟨x, hx, rfl⟩, ?_⟩
    cases u
    · exact .inl (redS_up C n x)
    · exact .inr (redS_dn C n x)
theorem stepOf_net {C : List Lk} {n : Nat} {L : List Lk} {u : Us} {x : Lk} (h0 : 0 ≤ u.link) (hx : L[u.link.toNat]? = some x) : stepOf (net C n L) u = some (redS C n u.lower x) := by
  unfold stepOf net
  rw [if_pos h0, List.getElem?_map, hx]
  simp only [Option.map_some]
  cases u.lower
  · rfl
  · rw [redS_dn]; rfl
section
variable {n : Nat} {C L : List Lk} (hT : Tree n C) (hL : Fine n L)
include hL in
theorem side_in {x : Lk} (hx : x ∈ L) (u : Bool) : ∃ p q : Nat, p < n ∧ q < n ∧ sideP u x = p ∧ sideQ u x = q := by
  have h := hL x hx
  unfold Lk.Fine at h
  cases u
  · exact ⟨x.fr.toNat, x.to.toNat, by omega, by omega, by unfold sideP; simp only [Bool.false_eq_true, if_false]; omega, by unfold sideQ; simp only [Bool.false_eq_true, if_false]; omega⟩
  · exact ⟨x.to.toNat, x.fr.toNat, by omega, by omega, by unfold sideP; simp only [if_pos]; omega, by unfold sideQ; simp only [if_pos]; omega⟩
include hT hL in
theorem redE_in : In n (redE C n L) := fun e he => by
  obtain ⟨x, hx, u, rfl⟩ := redE_mem.1 he
  obtain ⟨p, q, hp, hq, e1, e2⟩ := side_in hL hx u
  obtain ⟨r, h1, h2, _⟩ := hT.root_in hp
  obtain ⟨s, h3, h4, _⟩ := hT.root_in hq
  unfold redS
  rw [e1, e2, h2, h4]
  simp only [Int.toNat_natCast]
  exact ⟨h1, h3⟩
include hT hL in
/-- only roots are ever touched -/
theorem redE_roots {e : Ed} (he : e ∈ redE C n L) : into C (e.a : Int) = none ∧ into C (e.b : Int) = none := by
  obtain ⟨x, hx, u, rfl⟩ := redE_mem.1 he
  obtain ⟨p, q, hp, hq, e1, e2⟩ := side_in hL hx u
  obtain ⟨r, h1, h2, h5⟩ := hT.root_in hp
  obtain ⟨s, h3, h4, h6⟩ := hT.root_in hq
  unfold redS
  rw [e1, e2, h2, h4]
  simp only [Int.toNat_natCast]
  exact ⟨h5, h6⟩
include hT hL in
theorem redE_wt {e : Ed} (he : e ∈ redE C n L) : -(1099511627776 * ((C.length : Int) + 1)) ≤ e.w ∧ e.w ≤ 1099511627776 * ((C.length : Int) + 1) := by
  obtain ⟨x, hx, u, rfl⟩ := redE_mem.1 he
  have h1 := gap_bd hT (sideP u x) (sideQ u x)
  have h2 := hL x hx
  unfold Lk.Fine at h2
  have h3 : -1099511627776 ≤ sideW u x ∧ sideW u x ≤ 1099511627776 := by
    unfold sideW
    cases u
    · simp only [Bool.false_eq_true, if_false]; omega
    · simp only [if_pos]; omega
  unfold redS
  simp only
  omega
/-- a side of a link is kept -/
def keptS (z : Int → Int) (u : Bool) (x : Lk) : Prop := z (sideQ u x) - z (sideP u x) ≤ sideW u x
theorem kept_link {z : Int → Int} {x : Lk} (h : ∀ u, keptS z u x) : x.lo ≤ z x.to - z x.fr ∧ z x.to - z x.fr ≤ x.hi := by
  have h1 := h false
  have h2 := h true
  unfold keptS sideP sideQ sideW at h1 h2
  simp only [Bool.false_eq_true, if_false, if_true] at h1 h2
  omega
include hT hL in
/-- times that keep the steps from root to root keep all links, whatever the durations are -/
theorem sol_keeps {t d : Nat → Int} (hs : Sol (redE C n L) t) (hd : Durs C d) {x : Lk} (hx : x ∈ L) (u : Bool) : keptS (at_ C n t d) u x := by
  have h := hs _ (redE_mem.2 ⟨x, hx, u, rfl⟩)
  obtain ⟨p, q, hp, hq, e1, e2⟩ := side_in hL hx u
  have h2 := diff_le hT (t := t) hd hp hq
  unfold keptS
  unfold redS at h
  simp only at h
  rw [e1, e2] at h ⊢
  omega
include hT hL in
/-- and a step that is not kept is a link that some durations break -/
theorem broken {t : Nat → Int} {x : Lk} (hx : x ∈ L) {u : Bool} (h : ¬ t (redS C n u x).b - t (redS C n u x).a ≤ (redS C n u x).w) : sideW u x < at_ C n t (worst C n (sideP u x) (sideQ u x)) (sideQ u x) - at_ C n t (worst C n (sideP u x) (sideQ u x)) (sideP u x) := by
  obtain ⟨p, q, hp, hq, e1, e2⟩ := side_in hL hx u
  have h2 := diff_worst hT (t := t) hp hq
  unfold redS at h
  simp only at h
  rw [e1, e2] at h ⊢
  omega
end
/-! ## The search, from its ends -/
theorem flip_raise (t : Nat → Int) (e : Ed) : neg (raise t e) = low (neg t) (St.flip e) := by
  have := low_flip (neg t) (St.flip e)
  rw [neg_neg'] at this
  exact this.symm
theorem step_low (s : Sr) (e : Ed) (k now : Nat) : (s.step e k now).d = low s.d e := by
  unfold Sr.step low
  funext x
  unfold upd
  by_cases h : s.d e.a + e.w < s.d e.b
  · rw [if_pos h]
    simp only
    split <;> omega
  · rw [if_neg h]
    split
    · rename_i hx; subst hx; omega
    · rfl
theorem lowers_pass (E : List Ed) (t : Nat → Int) : neg (pass E t) = lows (E.map St.flip) (neg t) := by
  rw [lows_flip, List.map_map]
  have : (E.map (St.flip ∘ St.flip)) = E := by
    have h : (St.flip ∘ St.flip) = (id : Ed → Ed) := by funext e; rfl
    rw [h, List.map_id]
  rw [this, neg_neg']
end Go.Kin.Ct

set_option linter.unusedSectionVars false
set_option linter.unusedVariables false
set_option linter.unusedSimpArgs false
namespace Go.Kin.Ct
open Go.Kin.St
theorem weight_app (l m : List Ed) : weight (l ++ m) = weight l + weight m := by
  induction l with
  | nil => show weight m = 0 + _; omega
  | cons e l ih => simp only [List.cons_append, weight, ih]; omega
theorem weight_range (g : Nat → Ed) (P : Nat) : weight ((List.range P).map g) = sum P (fun k => (g k).w) := by
  induction P with
  | zero => rfl
  | succ P ih =>
    rw [List.range_succ, List.map_append, weight_app, ih]
    simp only [List.map_cons, List.map_nil, weight, sum]
    omega
theorem flip_get {E : List Ed} {k : Nat} {e : Ed} (h : (E.map St.flip)[k]? = some e) : E[k]? = some (St.flip e) := by
  rw [List.getElem?_map] at h
  cases hk : E[k]? with
  | none => rw [hk] at h; cases h
  | some g => rw [hk] at h; simp only [Option.map_some, Option.some.injEq] at h; rw [← h]; rfl
theorem fwd_good {E : List Ed} {S : Sr} {now c : Nat} (h : Inv (E.map St.flip) S now) (hT : ∀ k, 0 < S.T (iter S.fr k c)) : ∀ (m j : Nat),
    follows (iter S.fr j c) ((List.range' j m).map fun k => edgeAt E (S.by_ (iter S.fr k c))) ∧ endOf (iter S.fr j c) ((List.range' j m).map fun k => edgeAt E (S.by_ (iter S.fr k c))) = iter S.fr (j + m) c ∧
      ∀ e ∈ (List.range' j m).map fun k => edgeAt E (S.by_ (iter S.fr k c)), e ∈ E
  | 0, j => ⟨trivial, rfl, fun e he => by cases he⟩
  | m + 1, j => by
    obtain ⟨g1, g2, g3⟩ := fwd_good h hT m (j + 1)
    obtain ⟨e, he, hb, hf, -⟩ := (h.pt _).has (hT j)
    have he2 := flip_get he
    have hed : edgeAt E (S.by_ (iter S.fr j c)) = St.flip e := by unfold edgeAt; rw [he2]; rfl
    have hnx : iter S.fr (j + 1) c = (St.flip e).b := hf
    rw [List.range'_succ, List.map_cons, hed]
    refine ⟨⟨hb, by rw [← hnx]; exact g1⟩, ?_, fun g hg => ?_⟩
    · show endOf (St.flip e).b _ = _
      rw [← hnx, g2]; congr 1; omega
    · rcases List.mem_cons.1 hg with rfl | hg
      · exact List.mem_of_getElem? he2
      · exact g3 g hg
theorem wt_flip {E : List Ed} {S : Sr} {x : Nat} : wt (E.map St.flip) S x = (edgeAt E (S.by_ x)).w := by
  unfold wt edgeAt
  rw [List.getElem?_map]
  cases E[S.by_ x]? with
  | none => rfl
  | some e => rfl
/-- the uses on the cycle, as they are met -/
def cyc (S : Sr) (c P : Nat) : List Us := (List.range P).map fun j => useOf (S.by_ (iter S.fr j c))
theorem cyc_len (S : Sr) (c P : Nat) : (cyc S c P).length = P := by unfold cyc; simp
theorem cyc_succ (S : Sr) (c P : Nat) : cyc S c (P + 1) = cyc S c P ++ [useOf (S.by_ (iter S.fr P c))] := by unfold cyc; rw [List.range_succ, List.map_append]; rfl
theorem sol_cycle {l : List Lk} {n : Nat} (hE : In n (edges l)) (hl : Loopless (edges l)) {m x P : Nat} (hx : n * (edges l).length < (srSt ((edges l).map St.flip) m).T x) (h0 : 0 < (edges l).length) (hP : 0 < P)
    (hc : iter (srSt ((edges l).map St.flip) m).fr P (iter (srSt ((edges l).map St.flip) m).fr n x) = iter (srSt ((edges l).map St.flip) m).fr n x) :
    accepts l (cyc (srSt ((edges l).map St.flip) m) (iter (srSt ((edges l).map St.flip) m).fr n x) P) = true := by
  have hlf : ((edges l).map St.flip).length = (edges l).length := List.length_map ..
  have hll : Loopless ((edges l).map St.flip) := fun e he hab => by
    obtain ⟨g, hg, rfl⟩ := List.mem_map.1 he
    exact hl g hg hab.symm
  have hI := sr_inv hll (by rw [hlf]; exact h0) m
  have hT := (on_cycle hI (in_flip hE) (by rw [hlf]; exact hx)).2
  generalize srSt ((edges l).map St.flip) m = S at *
  generalize iter S.fr n x = c at *
  obtain ⟨g1, g2, g3⟩ := fwd_good hI hT P 0
  have hn := cycle_negative hI hP hc hT
  rw [← List.range_eq_range'] at g1 g2 g3
  refine accepts_of (E := (List.range P).map fun k => edgeAt (edges l) (S.by_ (iter S.fr k c))) (p := c) ?_ ?_ g1 (by rw [Nat.zero_add, hc] at g2; exact g2) ?_
  · unfold cyc
    rw [List.map_map, List.map_map]
    apply List.map_congr_left
    intro j _
    obtain ⟨e, he, _⟩ := (hI.pt _).has (hT j)
    simp only [Function.comp_apply, stepOf_useOf, flip_get he, edgeAt, Option.getD_some]
  · intro h
    have := congrArg List.length h
    rw [cyc_len] at this
    simp at this; omega
  · rw [weight_range]
    rw [sum_congr fun k _ => (wt_flip (E := edges l) (S := S) (x := iter S.fr k c)).symm]
    exact hn
theorem sol_loop {l : List Lk} {k : Nat} {e : Ed} (he : (edges l)[k]? = some e) (h1 : e.a = e.b) (h2 : e.w < 0) : accepts l [useOf k] = true :=
  accepts_of (E := [e]) (p := e.a) (by simp only [List.map_cons, List.map_nil, stepOf_useOf, he]) (by simp) ⟨rfl, trivial⟩ (by show e.b = e.a; exact h1.symm) (by simp only [weight]; omega)
/-! ## The rounds -/
theorem sr_lows (F : List Ed) (r : Nat) : ∀ k, k ≤ F.length → (srSt F (r * F.length + k)).d = lows (F.take k) (srSt F (r * F.length)).d
  | 0, _ => rfl
  | k + 1, hk => by
    have hx := List.getElem?_eq_getElem (show k < F.length by omega)
    rw [← Nat.add_assoc, sr_next hx, step_low, sr_lows F r k (by omega), List.take_add_one, hx]
    unfold lows
    rw [List.foldl_append]
    rfl
theorem sr_pass (E : List Ed) : ∀ r, (srSt (E.map St.flip) (r * E.length)).d = neg (passes E r fun _ => 0)
  | 0 => by rw [Nat.zero_mul]; funext x; show (0 : Int) = -(0 : Int); omega
  | r + 1 => by
    have hlf : (E.map St.flip).length = E.length := List.length_map ..
    have h := sr_lows (E.map St.flip) r (E.map St.flip).length (Nat.le_refl _)
    rw [List.take_length, hlf, sr_pass E r, ← lowers_pass] at h
    rw [Nat.succ_mul, h]
    rfl
/-- the times that the search has reached -/
def tm (E : List Ed) (m : Nat) : Nat → Int := neg (srSt (E.map St.flip) m).d
theorem tm_pass (E : List Ed) (r : Nat) : tm E (r * E.length) = passes E r fun _ => 0 := by unfold tm; rw [sr_pass, neg_neg']
theorem tm_within {E : List Ed} {W : Int} (hW : 0 ≤ W) (hw : ∀ e ∈ E, -W ≤ e.w ∧ e.w ≤ W) (m : Nat) : Within (W * m) (tm E m) := fun x => by
  have h := sr_within (E := E.map St.flip) hW (fun e he => by obtain ⟨g, hg, rfl⟩ := List.mem_map.1 he; exact hw g hg) m x
  unfold tm neg
  omega
/-- a step that is broken -/
theorem sr_up {E : List Ed} {r k : Nat} {e : Ed} (hk : E[k]? = some e) (hb : tm E (r * E.length + k) e.a < tm E (r * E.length + k) e.b - e.w) :
    tm E (r * E.length + (k + 1)) = upd (tm E (r * E.length + k)) e.a (tm E (r * E.length + k) e.b - e.w) ∧ (srSt (E.map St.flip) (r * E.length + (k + 1))).fr = upd (srSt (E.map St.flip) (r * E.length + k)).fr e.a e.b ∧
      (srSt (E.map St.flip) (r * E.length + (k + 1))).by_ = upd (srSt (E.map St.flip) (r * E.length + k)).by_ e.a k ∧ (srSt (E.map St.flip) (r * E.length + (k + 1))).T = upd (srSt (E.map St.flip) (r * E.length + k)).T e.a (r * E.length + k + 1) := by
  have hlf : (E.map St.flip).length = E.length := List.length_map ..
  have hx : (E.map St.flip)[k]? = some (St.flip e) := by rw [List.getElem?_map, hk]; rfl
  have h := sr_next (r := r) hx
  rw [hlf] at h
  unfold tm at hb ⊢
  generalize srSt (E.map St.flip) (r * E.length + k) = S at *
  rw [← Nat.add_assoc, h]
  unfold neg at hb ⊢
  have hif : S.d (St.flip e).a + (St.flip e).w < S.d (St.flip e).b := by
    show S.d e.b + e.w < S.d e.a
    omega
  unfold Sr.step
  rw [if_pos hif]
  refine ⟨?_, rfl, rfl, rfl⟩
  funext x
  show - (upd S.d e.a (S.d e.b + e.w) x) = upd (fun x => - S.d x) e.a (- S.d e.b - e.w) x
  unfold upd
  by_cases h : x = e.a
  · rw [if_pos h, if_pos h]; omega
  · rw [if_neg h, if_neg h]
theorem sr_same {E : List Ed} {r k : Nat} {e : Ed} (hk : E[k]? = some e) (hb : ¬ tm E (r * E.length + k) e.a < tm E (r * E.length + k) e.b - e.w) : srSt (E.map St.flip) (r * E.length + (k + 1)) = srSt (E.map St.flip) (r * E.length + k) := by
  have hlf : (E.map St.flip).length = E.length := List.length_map ..
  have hx : (E.map St.flip)[k]? = some (St.flip e) := by rw [List.getElem?_map, hk]; rfl
  have h := sr_next (r := r) hx
  rw [hlf] at h
  rw [← Nat.add_assoc, h]
  unfold tm neg at hb
  unfold Sr.step
  rw [if_neg]
  show ¬ _ + e.w < _
  intro h2
  refine hb ?_
  change _ < _ at h2
  simp only [St.flip] at h2
  omega
/-! ## The greatest of the least times -/
theorem gap_free (n : Nat) (t : Nat → Int) (W : Int) (hW : 0 < W) : ∀ m : Nat, (∃ x, x < n ∧ W * m < t x) → n ≤ m → ∃ j : Nat, j < m ∧ ∀ x, x < n → ¬ (W * j < t x ∧ t x ≤ W * (j + 1)) := by
  intro m ⟨x, hx, ht⟩ hm
  apply Classical.byContradiction
  intro hno
  have hall : ∀ j : Nat, j < m → ∃ y, y < n ∧ W * j < t y ∧ t y ≤ W * (j + 1) := fun j hj => by
    apply Classical.byContradiction
    intro h
    exact hno ⟨j, hj, fun y hy h2 => h ⟨y, hy, h2.1, h2.2⟩⟩
  let f : Nat → Nat := fun j => if h : j < m then Classical.choose (hall j h) else x
  have hf : ∀ j (h : j < m), f j < n ∧ W * j < t (f j) ∧ t (f j) ≤ W * (j + 1) := fun j h => by
    have := Classical.choose_spec (hall j h)
    simp only [f, dif_pos h]
    exact this
  obtain ⟨i, j, hij, hj, he⟩ := pigeon n f fun i hi => by
    by_cases h : i < m
    · exact (hf i h).1
    · simp only [f, dif_neg h]; exact hx
  have hi := hf i (by omega)
  have hmono : W * ((i : Int) + 1) ≤ W * j := Int.mul_le_mul_of_nonneg_left (by omega) (by omega)
  by_cases h : j < m
  · have hj2 := hf j h
    rw [← he] at hj2
    omega
  · have hjm : j = m := by omega
    have : f j = x := by simp only [f, dif_neg h]
    rw [← he] at this
    rw [this] at hi
    have hmono2 : W * ((i : Int) + 1) ≤ W * m := Int.mul_le_mul_of_nonneg_left (by omega) (by omega)
    omega
theorem least_le {n : Nat} {E : List Ed} {t : Nat → Int} {W : Int} (hW : 0 < W) (hw : ∀ e ∈ E, -W ≤ e.w) (hE : In n E) (h : Least n E (fun _ => 0) t) : ∀ x, x < n → t x ≤ W * n := by
  intro x hx
  apply Classical.byContradiction
  intro hno
  obtain ⟨j, hj, hg⟩ := gap_free n t W hW n ⟨x, hx, by omega⟩ (Nat.le_refl _)
  have hj0 : 0 ≤ W * (j : Int) := Int.mul_nonneg (by omega) (by omega)
  have hj1 : W * ((j : Int) + 1) = W * j + W := by rw [Int.mul_add, Int.mul_one]
  have hs : Sol E fun y => if W * (j + 1) < t y then t y - 1 else t y := fun e he => by
    have h1 := h.sol e he
    have h2 := hw e he
    obtain ⟨h3, h4⟩ := hE e he
    have g1 := hg e.a h3
    have g2 := hg e.b h4
    simp only
    split <;> split <;> omega
  have hle := h.le _ hs (fun y hy => by have := h.pos y hy; split <;> omega) x hx
  have hjn : W * ((j : Int) + 1) ≤ W * n := Int.mul_le_mul_of_nonneg_left (by omega) (by omega)
  rw [if_pos (by omega)] at hle
  omega
/-- points that are called keep their zeros -/
theorem passes_roots {E : List Ed} {p : Nat} (h : ∀ e ∈ E, e.a ≠ p) : ∀ k, passes E k (fun _ => 0) p = 0 := by
  have h1 : ∀ (F : List Ed) (t : Nat → Int), (∀ e ∈ F, e.a ≠ p) → pass F t p = t p := by
    intro F
    induction F with
    | nil => intro t _; rfl
    | cons e F ih =>
      intro t hF
      show pass F (raise t e) p = t p
      rw [ih _ fun g hg => hF g (List.mem_cons_of_mem _ hg)]
      unfold raise
      exact upd_other _ _ (Ne.symm (hF e List.mem_cons_self))
  intro k
  induction k with
  | zero => rfl
  | succ k ih => show pass E _ p = 0; rw [h1 E _ h, ih]
end Go.Kin.Ct
