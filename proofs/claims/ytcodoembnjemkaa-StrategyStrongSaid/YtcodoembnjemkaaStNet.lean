/-! Difference constraints: the least schedule, and why n rounds reach it. Plain Lean. -/
set_option linter.unusedSectionVars false
set_option linter.unusedVariables false
set_option linter.unusedSimpArgs false
namespace Go.Kin.St

/-- The time of `b` less that of `a` is at most `w`. -/
structure Ed where
 a : Nat
 b : Nat
 w : Int

def upd {α : Type} (t : Nat -> α) (i : Nat) (v : α) : Nat -> α := fun x => if x = i then v else t x

theorem upd_self {α : Type} (t : Nat -> α) (i : Nat) (v : α) : upd t i v i = v := by simp [upd]
theorem upd_other {α : Type} (t : Nat -> α) {i x : Nat} (v : α) (h : x ≠ i) : upd t i v x = t x := by simp [upd, h]

/-- All constraints are kept. -/
def Sol (E : List Ed) (t : Nat -> Int) : Prop := ∀ e ∈ E, t e.b - t e.a <= e.w

/-- All edges are between points below `n`. -/
def In (n : Nat) (E : List Ed) : Prop := ∀ e ∈ E, e.a < n /\ e.b < n

def raise (t : Nat -> Int) (e : Ed) : Nat -> Int := upd t e.a (max (t e.a) (t e.b - e.w))

def pass (E : List Ed) (t : Nat -> Int) : Nat -> Int := E.foldl raise t

/-! ## Sums and counts below n -/

def sum : Nat -> (Nat -> Int) -> Int
 | 0, _ => 0
 | n + 1, f => sum n f + f n

theorem sum_le {n : Nat} {f g : Nat -> Int} (h : ∀ x, x < n -> f x <= g x) : sum n f <= sum n g := by
 induction n with
 | zero => simp [sum]
 | succ n ih =>
  have h1 := ih (fun x hx => h x (by omega))
  have h2 := h n (by omega)
  simp only [sum]; omega

theorem sum_lt {n : Nat} {f g : Nat -> Int} (h : ∀ x, x < n -> f x <= g x) {y : Nat} (hy : y < n) (hl : f y < g y) :
  sum n f < sum n g := by
 induction n with
 | zero => omega
 | succ n ih =>
  simp only [sum]
  rcases Nat.lt_or_ge y n with h0 | h0
  ·have h1 := ih (fun x hx => h x (by omega)) h0
   have h2 := h n (by omega); omega
  ·have : y = n := by omega
   subst this
   have h1 := sum_le (n := y) (f := f) (g := g) (fun x hx => h x (by omega))
   omega

theorem sum_nonneg {n : Nat} {f : Nat -> Int} (h : ∀ x, x < n -> 0 <= f x) : 0 <= sum n f := by
 induction n with
 | zero => simp [sum]
 | succ n ih =>
  have h1 := ih (fun x hx => h x (by omega))
  have h2 := h n (by omega)
  simp only [sum]; omega

noncomputable def cnt : Nat -> (Nat -> Prop) -> Nat
 | 0, _ => 0
 | n + 1, p => cnt n p + (open Classical in if p n then 1 else 0)

theorem cnt_le (n : Nat) (p : Nat -> Prop) : cnt n p <= n := by
 induction n with
 | zero => simp [cnt]
 | succ n ih => simp only [cnt]; split <;> omega

theorem cnt_mono {n : Nat} {p q : Nat -> Prop} (h : ∀ x, x < n -> p x -> q x) : cnt n p <= cnt n q := by
 induction n with
 | zero => simp [cnt]
 | succ n ih =>
  have h1 := ih (fun x hx => h x (by omega))
  have h2 := h n (by omega)
  simp only [cnt]
  by_cases hp : p n
  ·simp only [hp, h2 hp, if_true]; omega
  ·simp only [hp, if_false]; omega

theorem cnt_lt {n : Nat} {p q : Nat -> Prop} (h : ∀ x, x < n -> p x -> q x) {y : Nat} (hy : y < n) (hp : ¬ p y) (hq : q y) :
  cnt n p < cnt n q := by
 induction n with
 | zero => omega
 | succ n ih =>
  simp only [cnt]
  rcases Nat.lt_or_ge y n with h0 | h0
  ·have h1 := ih (fun x hx => h x (by omega)) h0
   have h2 := h n (by omega)
   by_cases hp : p n
   ·simp only [hp, h2 hp, if_true]; omega
   ·simp only [hp, if_false]; omega
  ·have : y = n := by omega
   subst this
   have h1 := cnt_mono (n := y) (p := p) (q := q) (fun x hx => h x (by omega))
   simp only [hp, hq, if_true, if_false]; omega

theorem cnt_all {n : Nat} {p : Nat -> Prop} (h : n <= cnt n p) : ∀ x, x < n -> p x := by
 induction n with
 | zero => omega
 | succ n ih =>
  simp only [cnt] at h
  have h1 := cnt_le n p
  by_cases hp : p n
  ·intro x hx
   rcases Nat.lt_or_ge x n with h0 | h0
   ·simp only [hp, if_true] at h
    exact ih (by omega) x h0
   ·have : x = n := by omega
    subst this; exact hp
  ·simp only [hp, if_false] at h; omega

/-! ## The least schedule -/

theorem sol_min {E : List Ed} {s u : Nat -> Int} (hs : Sol E s) (hu : Sol E u) : Sol E (fun x => min (s x) (u x)) := by
 intro e he
 have h1 := hs e he
 have h2 := hu e he
 simp only; omega

theorem sol_shift {E : List Ed} {s : Nat -> Int} (hs : Sol E s) (k : Int) : Sol E (fun x => s x + k) := by
 intro e he
 have h1 := hs e he
 simp only; omega

/-- `L` is the least schedule that is nowhere below `I`. -/
structure Least (n : Nat) (E : List Ed) (I L : Nat -> Int) : Prop where
 sol : Sol E L
 pos : ∀ x, x < n -> I x <= L x
 le : ∀ s, Sol E s -> (∀ x, x < n -> I x <= s x) -> ∀ x, x < n -> L x <= s x

theorem least_exists {n : Nat} {E : List Ed} {I s : Nat -> Int} (hs : Sol E s) (hp : ∀ x, x < n -> I x <= s x) :
  ∃ L, Least n E I L := by
 have key : ∀ k : Nat, ∀ s, Sol E s -> (∀ x, x < n -> I x <= s x) -> sum n (fun x => s x - I x) <= k -> ∃ L, Least n E I L := by
  intro k
  induction k with
  | zero =>
   intro s hs hp hk
   refine ⟨s, hs, hp, fun u hu hq x hx => ?_⟩
   rcases Int.lt_or_le (u x) (s x) with h | h
   ·have := sum_lt (n := n) (f := fun y => min (s y) (u y) - I y) (g := fun y => s y - I y) (fun y _ => by show min (s y) (u y) - I y <= s y - I y; omega) hx (by show min (s x) (u x) - I x < s x - I x; omega)
    have h2 := sum_nonneg (n := n) (f := fun y => min (s y) (u y) - I y) (fun y hy => by have := hp y hy; have := hq y hy; show 0 <= min (s y) (u y) - I y; omega)
    omega
   ·exact h
  | succ k ih =>
   intro s hs hp hk
   by_cases hl : ∀ u, Sol E u -> (∀ x, x < n -> I x <= u x) -> ∀ x, x < n -> s x <= u x
   ·exact ⟨s, hs, hp, hl⟩
   ·have ⟨u, hu, hq, x, hx, h⟩ : ∃ u, Sol E u /\ (∀ x, x < n -> I x <= u x) /\ ∃ x, x < n /\ ¬ s x <= u x := by
     apply Classical.byContradiction
     intro hn
     apply hl
     intro u hu hq x hx
     apply Classical.byContradiction
     intro h
     exact hn ⟨u, hu, hq, x, hx, h⟩
    refine ih (fun y => min (s y) (u y)) (sol_min hs hu) (fun y hy => by have := hp y hy; have := hq y hy; show I y <= min (s y) (u y); omega) ?_
    have := sum_lt (n := n) (f := fun y => min (s y) (u y) - I y) (g := fun y => s y - I y) (fun y _ => by show min (s y) (u y) - I y <= s y - I y; omega) hx (by show min (s x) (u x) - I x < s x - I x; omega)
    omega
 refine key (sum n (fun x => s x - I x)).toNat s hs hp ?_
 have := sum_nonneg (n := n) (f := fun x => s x - I x) (fun x hx => by have := hp x hx; show 0 <= s x - I x; omega)
 omega

theorem Least.uniq {n : Nat} {E : List Ed} {I L M : Nat -> Int} (h : Least n E I L) (g : Least n E I M) : ∀ x, x < n -> L x = M x :=
 fun x hx => Int.le_antisymm (h.le M g.sol g.pos x hx) (g.le L h.sol h.pos x hx)

/-! ## Passes -/

theorem raise_ge (t : Nat -> Int) (e : Ed) (x : Nat) : t x <= raise t e x := by
 unfold raise upd
 split
 ·rename_i h; subst h; omega
 ·omega

theorem pass_ge (E : List Ed) (t : Nat -> Int) (x : Nat) : t x <= pass E t x := by
 induction E generalizing t with
 | nil => simp [pass]
 | cons e E ih => exact Int.le_trans (raise_ge t e x) (ih (raise t e))

theorem raise_le {n : Nat} {e : Ed} {t s : Nat -> Int} (hb : e.b < n) (hs : s e.b - s e.a <= e.w) (h : ∀ x, x < n -> t x <= s x) :
  ∀ x, x < n -> raise t e x <= s x := by
 intro x hx
 unfold raise upd
 split
 ·rename_i hxa; subst hxa
  have h1 := h e.b hb
  have h2 := h e.a hx
  omega
 ·exact h x hx

theorem pass_le {n : Nat} {E : List Ed} (hE : In n E) {t s : Nat -> Int} (hs : Sol E s) (h : ∀ x, x < n -> t x <= s x) :
  ∀ x, x < n -> pass E t x <= s x := by
 induction E generalizing t with
 | nil => simpa [pass] using h
 | cons e E ih =>
  exact ih (fun e he => hE e (List.mem_cons_of_mem _ he)) (fun e he => hs e (List.mem_cons_of_mem _ he))
   (raise_le (hE e List.mem_cons_self).2 (hs e List.mem_cons_self) h)

/-- What an edge asks of the start is there after the pass. -/
theorem pass_edge {E : List Ed} (t : Nat -> Int) {e : Ed} (he : e ∈ E) : t e.b - e.w <= pass E t e.a := by
 induction E generalizing t with
 | nil => cases he
 | cons f E ih =>
  rcases List.mem_cons.1 he with h | h
  ·subst h
   refine Int.le_trans ?_ (pass_ge E (raise t e) e.a)
   simp only [raise, upd, if_true]; omega
  ·have h1 := ih (raise t f) h
   have h2 := raise_ge t f e.b
   show _ <= pass E (raise t f) e.a
   omega

/-- A pass makes a further time final. -/
theorem pass_grows {n : Nat} {E : List Ed} (hE : In n E) {I L t : Nat -> Int} (hL : Least n E I L)
  (h0 : ∀ x, x < n -> I x <= t x) (hl : ∀ x, x < n -> t x <= L x) {y : Nat} (hy : y < n) (hn : t y ≠ L y) :
  cnt n (fun x => t x = L x) < cnt n (fun x => pass E t x = L x) := by
 have hkeep : ∀ x, x < n -> t x = L x -> pass E t x = L x := fun x hx h => by
  have h1 := pass_ge E t x
  have h2 := pass_le hE hL.sol hl x hx
  omega
 let M : Nat -> Int := fun x => open Classical in if t x = L x then L x else L x - 1
 have hM : ¬ Sol E M := fun hs => by
  have := hL.le M hs (fun x hx => by
   have h1 := h0 x hx; have h2 := hl x hx
   simp only [M]; split <;> omega) y hy
  simp only [M, hn, if_false] at this
  omega
 have ⟨e, he, hv⟩ : ∃ e ∈ E, ¬ (M e.b - M e.a <= e.w) := by
  apply Classical.byContradiction
  intro hh
  apply hM
  intro e he
  apply Classical.byContradiction
  intro h
  exact hh ⟨e, he, h⟩
 have hs := hL.sol e he
 have hi := hE e he
 have ha : ¬ t e.a = L e.a := fun h => by
  simp only [M, h, if_true] at hv
  split at hv <;> omega
 have hb : t e.b = L e.b := by
  apply Classical.byContradiction
  intro h
  simp only [M, ha, h, if_false] at hv
  omega
 simp only [M, ha, hb, if_true, if_false] at hv
 refine cnt_lt hkeep hi.1 ha ?_
 have h1 := pass_edge t he
 have h2 := pass_le hE hL.sol hl e.a hi.1
 omega

def passes (E : List Ed) : Nat -> (Nat -> Int) -> (Nat -> Int)
 | 0, t => t
 | k + 1, t => pass E (passes E k t)

theorem passes_ge (E : List Ed) (k : Nat) (I : Nat -> Int) (x : Nat) : I x <= passes E k I x := by
 induction k with
 | zero => exact Int.le_refl _
 | succ k ih => exact Int.le_trans ih (pass_ge _ _ _)

theorem passes_le {n : Nat} {E : List Ed} (hE : In n E) {I s : Nat -> Int} (hs : Sol E s) (hp : ∀ x, x < n -> I x <= s x) (k : Nat) :
  ∀ x, x < n -> passes E k I x <= s x := by
 induction k with
 | zero => exact hp
 | succ k ih => exact pass_le hE hs ih

theorem passes_grow {n : Nat} {E : List Ed} (hE : In n E) {I L : Nat -> Int} (hL : Least n E I L) (k : Nat) :
  min k n <= cnt n (fun x => passes E k I x = L x) := by
 induction k with
 | zero => simp
 | succ k hc =>
  have h0 : ∀ x, x < n -> I x <= passes E k I x := fun x _ => passes_ge E k I x
  have hl := passes_le hE hL.sol hL.pos k
  by_cases hall : ∀ x, x < n -> passes E k I x = L x
  ·have : n <= cnt n (fun x => passes E (k+1) I x = L x) := by
    have hk : ∀ m, m <= n -> m <= cnt m (fun x => passes E (k+1) I x = L x) := by
     intro m
     induction m with
     | zero => intro _; exact Nat.zero_le _
     | succ m ihm =>
      intro hm
      have h1 := ihm (by omega)
      have h2 : passes E (k+1) I m = L m := by
       have h3 := hall m (by omega)
       have h4 := pass_ge E (passes E k I) m
       have h5 := pass_le hE hL.sol hl m (by omega)
       show pass E (passes E k I) m = L m
       omega
      simp only [cnt, h2, if_true]; omega
    exact hk n (Nat.le_refl n)
   omega
  ·have ⟨y, hy, hn⟩ : ∃ y, y < n /\ passes E k I y ≠ L y := by
    apply Classical.byContradiction
    intro hh
    apply hall
    intro x hx
    apply Classical.byContradiction
    intro h
    exact hh ⟨x, hx, h⟩
   have := pass_grows hE hL h0 hl hy hn
   have hs : cnt n (fun x => pass E (passes E k I) x = L x) = cnt n (fun x => passes E (k+1) I x = L x) := rfl
   omega

/-- After n passes the least schedule is reached. -/
theorem passes_least {n : Nat} {E : List Ed} (hE : In n E) {I L : Nat -> Int} (hL : Least n E I L) {k : Nat} (hk : n <= k) :
  ∀ x, x < n -> passes E k I x = L x := by
 have h := passes_grow hE hL k
 exact cnt_all (by omega)

theorem passes_sol {n : Nat} {E : List Ed} (hE : In n E) {I s : Nat -> Int} (hs : Sol E s) (hp : ∀ x, x < n -> I x <= s x)
  {k : Nat} (hk : n <= k) : Sol E (passes E k I) := by
 obtain ⟨L, hL⟩ := least_exists hs hp
 have h := passes_least hE hL hk
 intro e he
 have h1 := hL.sol e he
 have h2 := hE e he
 rw [h e.a h2.1, h e.b h2.2]; exact h1

/-- Whatever pass keeps all constraints is the least schedule. -/
theorem sol_least {n : Nat} {E : List Ed} (hE : In n E) {I : Nat -> Int} {k : Nat} (h : Sol E (passes E k I)) :
  Least n E I (passes E k I) :=
 ⟨h, fun x _ => passes_ge E k I x, fun _ hs hp => passes_le hE hs hp k⟩

/-- A schedule, raised far enough, is nowhere below. -/
theorem lift (n : Nat) (I s : Nat -> Int) : ∃ k : Int, ∀ x, x < n -> I x <= s x + k := by
 induction n with
 | zero => exact ⟨0, fun x h => by omega⟩
 | succ n ih =>
  obtain ⟨k, hk⟩ := ih
  refine ⟨max k (I n - s n), fun x hx => ?_⟩
  rcases Nat.lt_or_ge x n with h | h
  ·have := hk x h; omega
  ·have : x = n := by omega
   subst this; omega

/-- If n passes do not suffice, nothing is a schedule. -/
theorem none_sol {n : Nat} {E : List Ed} (hE : In n E) {I : Nat -> Int} {k : Nat} (hk : n <= k) (h : ¬ Sol E (passes E k I)) (s : Nat -> Int) :
  ¬ Sol E s := fun hs => by
 obtain ⟨c, hc⟩ := lift n I s
 exact h (passes_sol hE (sol_shift hs c) hc hk)

/-! ## The first pass that keeps all -/

/-- What the loop of rounds returns: the first of the passes that keeps all, if there is one among `k`. -/
noncomputable def found (E : List Ed) : Nat -> (Nat -> Int) -> Option (Nat -> Int)
 | 0, _ => none
 | k + 1, t => open Classical in if Sol E t then some t else found E k (pass E t)

theorem passes_pass (E : List Ed) (k : Nat) (t : Nat -> Int) : passes E k (pass E t) = pass E (passes E k t) := by
 induction k with
 | zero => rfl
 | succ k ih => simp only [passes, ih]

theorem found_some {E : List Ed} {k : Nat} {I t : Nat -> Int} (h : found E k I = some t) : Sol E t /\ ∃ j, t = passes E j I := by
 induction k generalizing I with
 | zero => cases h
 | succ k ih =>
  simp only [found] at h
  by_cases hs : Sol E I
  ·rw [if_pos hs] at h
   cases h
   exact ⟨hs, 0, rfl⟩
  ·rw [if_neg hs] at h
   obtain ⟨h1, j, h2⟩ := ih h
   exact ⟨h1, j + 1, by rw [h2, passes_pass]; rfl⟩

theorem found_none {E : List Ed} {k : Nat} {I : Nat -> Int} (h : found E k I = none) : ∀ j, j < k -> ¬ Sol E (passes E j I) := by
 induction k generalizing I with
 | zero => intro j hj; omega
 | succ k ih =>
  simp only [found] at h
  by_cases hs : Sol E I
  ·rw [if_pos hs] at h; cases h
  ·rw [if_neg hs] at h
   intro j hj
   cases j with
   | zero => exact hs
   | succ j =>
    have := ih h j (by omega)
    rw [passes_pass] at this
    exact this

theorem found_least {n : Nat} {E : List Ed} (hE : In n E) {k : Nat} {I t : Nat -> Int} (h : found E k I = some t) : Least n E I t := by
 obtain ⟨h1, j, h2⟩ := found_some h
 subst h2
 exact sol_least hE h1

theorem found_no {n : Nat} {E : List Ed} (hE : In n E) {I : Nat -> Int} (h : found E (n + 1) I = none) (s : Nat -> Int) : ¬ Sol E s :=
 none_sol hE (Nat.le_refl n) (found_none h n (by omega)) s

end Go.Kin.St

/-! The greatest difference of two times: lowering passes are raising passes of the network turned about. Plain Lean. -/
namespace Go.Kin.St

def flip (e : Ed) : Ed := ⟨e.b, e.a, e.w⟩
def neg (t : Nat -> Int) : Nat -> Int := fun x => - t x
def low (t : Nat -> Int) (e : Ed) : Nat -> Int := upd t e.b (min (t e.b) (t e.a + e.w))
def lows (E : List Ed) (t : Nat -> Int) : Nat -> Int := E.foldl low t
theorem neg_neg' (t : Nat -> Int) : neg (neg t) = t := by funext x; simp [neg]

theorem low_flip (t : Nat -> Int) (e : Ed) : low t e = neg (raise (neg t) (flip e)) := by
 funext x
 simp only [low, neg, raise, flip, upd]
 split
 ·omega
 ·omega

theorem lows_flip (E : List Ed) (t : Nat -> Int) : lows E t = neg (pass (E.map flip) (neg t)) := by
 induction E generalizing t with
 | nil => simp [lows, pass, neg_neg']
 | cons e E ih =>
  show lows E (low t e) = _
  rw [ih, low_flip, neg_neg']; rfl

theorem in_flip {n : Nat} {E : List Ed} (h : In n E) : In n (E.map flip) := by
 intro e he
 obtain ⟨f, hf, rfl⟩ := List.mem_map.1 he
 exact ⟨(h f hf).2, (h f hf).1⟩

/-! ## Distances, and whether they are known -/

def reach (p : (Nat -> Int) × (Nat -> Bool)) (e : Ed) : (Nat -> Int) × (Nat -> Bool) :=
 if p.2 e.a = true /\ (p.2 e.b = false ∨ p.1 e.a + e.w < p.1 e.b) then (upd p.1 e.b (p.1 e.a + e.w), upd p.2 e.b true) else p

def reachs (E : List Ed) (p : (Nat -> Int) × (Nat -> Bool)) : (Nat -> Int) × (Nat -> Bool) := E.foldl reach p

def reached (E : List Ed) : Nat -> (Nat -> Int) × (Nat -> Bool) -> (Nat -> Int) × (Nat -> Bool)
 | 0, p => p
 | k + 1, p => reachs E (reached E k p)

/-! ## What a bound means -/

/-- Between two differences lie no gaps. -/
theorem between {E : List Ed} {a b : Nat} {t u : Nat -> Int} (ht : Sol E t) (hu : Sol E u) {v : Int}
  (h1 : t b - t a <= v) (h2 : v <= u b - u a) : ∃ r, Sol E r /\ r b - r a = v := by
 refine ⟨fun x => min (u x + (- u a)) (t x + (- t a + (v - (t b - t a)))), sol_min (sol_shift hu _) (sol_shift ht _), ?_⟩
 show min (u b + - u a) (t b + (- t a + (v - (t b - t a)))) - min (u a + - u a) (t a + (- t a + (v - (t b - t a)))) = v
 omega

/-! ## Closed walks -/

def follows : Nat -> List Ed -> Prop
 | _, [] => True
 | p, e :: l => e.a = p /\ follows e.b l

def endOf (p : Nat) (l : List Ed) : Nat := l.foldl (fun _ e => e.b) p
def weight : List Ed -> Int
 | [] => 0
 | e :: l => e.w + weight l

theorem follows_sum {p : Nat} {l : List Ed} (h : follows p l) {t : Nat -> Int} (ht : Sol l t) : t (endOf p l) - t p <= weight l := by
 induction l generalizing p with
 | nil => simp [endOf, weight]
 | cons e l ih =>
  obtain ⟨rfl, h⟩ := h
  have h1 := ih h (fun f hf => ht f (List.mem_cons_of_mem _ hf))
  have h2 := ht e List.mem_cons_self
  simp only [weight]
  show t (endOf e.b l) - t e.a <= _
  omega

/-- A closed walk of negative weight leaves no schedule. -/
theorem closed_none {E l : List Ed} {p : Nat} (h : follows p l) (he : endOf p l = p) (hw : weight l < 0) (hl : ∀ e ∈ l, e ∈ E) (t : Nat -> Int) :
  ¬ Sol E t := fun ht => by
 have := follows_sum h (fun e he => ht e (hl e he)) (t := t)
 rw [he] at this; omega

end Go.Kin.St

/-! The search for a negative cycle: stamps of the last update, and why `from` leads into a negative cycle. Plain Lean. -/
namespace Go.Kin.St

/-- The state of the search: distances, the points they came from, the edges' numbers, and (a ghost) the time of the last update. -/
structure Sr where
 d : Nat -> Int
 fr : Nat -> Nat
 by_ : Nat -> Nat
 T : Nat -> Nat

/-- One edge, with its number `k`, at the time `now`. -/
def Sr.step (s : Sr) (e : Ed) (k now : Nat) : Sr :=
 if s.d e.a + e.w < s.d e.b then ⟨upd s.d e.b (s.d e.a + e.w), upd s.fr e.b e.a, upd s.by_ e.b k, upd s.T e.b now⟩ else s

/-- an edge from a point to itself never raises it -/
def Loopless (E : List Ed) : Prop := ∀ e ∈ E, e.a = e.b -> 0 <= e.w

/-- What holds of a point that was updated. -/
structure Pt (E : List Ed) (s : Sr) (now x : Nat) : Prop where
 le : s.T x <= now
 has : 0 < s.T x -> ∃ e, E[s.by_ x]? = some e /\ e.b = x /\ s.fr x = e.a /\ s.d e.a + e.w <= s.d x /\ s.T e.a ≠ s.T x /\
  (s.T x < s.T e.a -> s.d e.a + e.w < s.d x) /\ (E.length < s.T x -> s.T x < s.T e.a + E.length)

structure Inv (E : List Ed) (s : Sr) (now : Nat) : Prop where
 pt : ∀ x, Pt E s now x
 ed : ∀ τ, 1 <= τ -> τ <= now -> now < τ + E.length -> ∀ e, E[(τ - 1) % E.length]? = some e -> s.T e.a <= τ -> s.d e.b <= s.d e.a + e.w

theorem Inv.start (E : List Ed) (f b : Nat -> Nat) : Inv E ⟨fun _ => 0, f, b, fun _ => 0⟩ 0 :=
 ⟨fun x => ⟨Nat.le_refl _, fun h => absurd h (by simp)⟩, fun τ h1 h2 => by omega⟩

theorem Inv.next {E : List Ed} {s : Sr} {now : Nat} (h : Inv E s now) (hl : Loopless E) {e : Ed} (he : E[now % E.length]? = some e) :
  Inv E (s.step e (now % E.length) (now + 1)) (now + 1) := by
 have hm : 0 < E.length := by
  rcases Nat.eq_zero_or_pos E.length with h0 | h0
  ·have : E = [] := List.length_eq_zero_iff.1 h0
   subst this; simp at he
  ·exact h0
 unfold Sr.step
 by_cases hf : s.d e.a + e.w < s.d e.b
 ·have hne : e.a ≠ e.b := fun h => by have := hl e (List.mem_of_getElem? he) h; rw [h] at hf; omega
  rw [if_pos hf]
  refine ⟨fun x => ?_, fun τ h1 h2 h3 g hg ht => ?_⟩
  ·have hx := h.pt x
   by_cases hxb : x = e.b
   ·subst hxb
    refine ⟨by simp [upd], fun _ => ⟨e, ?_⟩⟩
    have ha := (h.pt e.a).le
    simp only [upd_self, upd_other _ _ hne]
    refine ⟨he, trivial, trivial, Int.le_refl _, by omega, fun hlt => by omega, fun hlt => ?_⟩
    rcases Nat.lt_or_ge (s.T e.a) (now + 1 - E.length + 1) with hc | hc
    ·have := h.ed (now + 1 - E.length) (by omega) (by omega) (by omega) e (by
      have : (now + 1 - E.length - 1) % E.length = now % E.length := by
       obtain ⟨q, hq⟩ : ∃ q, now = q + E.length := ⟨now - E.length, by omega⟩
       rw [show now + 1 - E.length - 1 = q by omega, hq, Nat.add_mod_right]
      rw [this]; exact he) (by omega)
     omega
    ·omega
   ·refine ⟨by simp only [upd_other _ _ hxb]; have := hx.le; omega, fun hp => ?_⟩
    simp only [upd_other _ _ hxb] at hp
    obtain ⟨g, hg, hgb, hgf, hd, hT, hs, hr⟩ := hx.has hp
    refine ⟨g, ?_⟩
    simp only [upd_other _ _ hxb]
    by_cases hga : g.a = e.b
    ·have hle := hx.le
     simp only [hga, upd_self] at hd hT hs hr ⊢
     exact ⟨hg, hgb, by omega, by omega, by omega, fun _ => by omega, fun _ => by omega⟩
    ·simp only [upd_other _ _ hga]
     exact ⟨hg, hgb, hgf, hd, hT, hs, hr⟩
  ·rcases Nat.lt_or_ge now τ with h4 | h4
   ·have : τ = now + 1 := by omega
    subst this
    simp only [Nat.add_sub_cancel] at hg
    rw [he] at hg; cases hg
    simp only [upd_self, upd_other _ _ hne]; omega
   ·by_cases hga : g.a = e.b
    ·simp only [hga, upd_self] at ht; omega
    ·simp only [upd_other _ _ hga] at ht ⊢
     have := h.ed τ h1 h4 (by omega) g hg ht
     by_cases hgb : g.b = e.b
     ·simp only [hgb, upd_self] at this ⊢; omega
     ·simp only [upd_other _ _ hgb]; exact this
 ·rw [if_neg hf]
  refine ⟨fun x => ⟨Nat.le_succ_of_le (h.pt x).le, (h.pt x).has⟩, fun τ h1 h2 h3 g hg ht => ?_⟩
  rcases Nat.lt_or_ge now τ with h4 | h4
  ·have : τ = now + 1 := by omega
   subst this
   simp only [Nat.add_sub_cancel] at hg
   rw [he] at hg; cases hg
   omega
  ·exact h.ed τ h1 h4 (by omega) g hg ht

/-! ## Chains -/

def iter {α : Type} (f : α -> α) : Nat -> α -> α
 | 0, x => x
 | k + 1, x => f (iter f k x)

theorem iter_add {α : Type} (f : α -> α) (i j : Nat) (x : α) : iter f (i + j) x = iter f i (iter f j x) := by
 induction i with
 | zero => simp [iter]
 | succ i ih => rw [show i + 1 + j = (i + j) + 1 by omega]; simp only [iter, ih]

theorem chain_stamp {E : List Ed} {s : Sr} {now : Nat} (h : Inv E s now) (k : Nat) : ∀ j x, j * E.length < s.T x -> k <= j ->
  (j - k) * E.length < s.T (iter s.fr k x) := by
 induction k with
 | zero => intro j x hx _; simpa [iter] using hx
 | succ k ih =>
  intro j x hx hk
  have h1 := ih j x hx (by omega)
  have h2 := (h.pt (iter s.fr k x))
  obtain ⟨i, hi⟩ : ∃ i, j - k = i + 1 := ⟨j - k - 1, by omega⟩
  rw [hi, Nat.succ_mul] at h1
  obtain ⟨e, _, _, hf, _, _, _, hr⟩ := h2.has (by omega)
  have h3 := hr (by omega)
  show (j - (k + 1)) * E.length < s.T (s.fr (iter s.fr k x))
  rw [hf, show j - (k + 1) = i by omega]
  omega

/-- Among n + 1 numbers below n, two are equal. -/
theorem pigeon : ∀ (n : Nat) (f : Nat -> Nat), (∀ i, i <= n -> f i < n) -> ∃ i j, i < j /\ j <= n /\ f i = f j := by
 intro n
 induction n with
 | zero => intro f h; have := h 0 (Nat.le_refl 0); omega
 | succ n ih =>
  intro f h
  by_cases hx : ∃ i, i <= n /\ f i = f (n + 1)
  ·obtain ⟨i, hi, he⟩ := hx
   exact ⟨i, n + 1, by omega, Nat.le_refl _, he⟩
  ·have hn : ∀ i, i <= n -> f i ≠ f (n + 1) := fun i hi he => hx ⟨i, hi, he⟩
   -- the last value gives way to n
   let g : Nat -> Nat := fun i => if f i = n then f (n + 1) else f i
   have hg : ∀ i, i <= n -> g i < n := fun i hi => by
    have h1 := h i (by omega)
    have h2 := h (n + 1) (Nat.le_refl _)
    have h3 := hn i hi
    simp only [g]; split <;> omega
   obtain ⟨i, j, hij, hj, he⟩ := ih g hg
   refine ⟨i, j, hij, by omega, ?_⟩
   have h1 := hn i (by omega)
   have h2 := hn j hj
   simp only [g] at he
   split at he <;> split at he <;> omega

/-- The point that `n` steps back lead to lies on a cycle of updated points. -/
theorem on_cycle {E : List Ed} {s : Sr} {now n : Nat} (h : Inv E s now) (hE : In n E) {x : Nat} (hx : n * E.length < s.T x) :
  (∃ p, 0 < p /\ p <= n /\ iter s.fr p (iter s.fr n x) = iter s.fr n x) /\ ∀ k, 0 < s.T (iter s.fr k (iter s.fr n x)) := by
 have hpos : ∀ k, k <= n -> 0 < s.T (iter s.fr k x) := fun k hk => by
  have := chain_stamp h k n x hx hk; omega
 have hlt : ∀ k, k <= n -> iter s.fr k x < n := fun k hk => by
  obtain ⟨e, he, hb, _⟩ := (h.pt _).has (hpos k hk)
  have := (hE e (List.mem_of_getElem? he)).2
  omega
 obtain ⟨i, j, hij, hj, he⟩ := pigeon n (fun k => iter s.fr k x) hlt
 have hper : ∀ k, i <= k -> iter s.fr (k + (j - i)) x = iter s.fr k x := fun k hk => by
  rw [show k + (j - i) = (k - i) + j by omega, iter_add, <- he, <- iter_add]
  congr 1; omega
 refine ⟨⟨j - i, by omega, by omega, ?_⟩, fun k => ?_⟩
 ·rw [<- iter_add, Nat.add_comm]; exact hper n (by omega)
 ·have : ∀ k, ∃ m, m <= n /\ iter s.fr k (iter s.fr n x) = iter s.fr m x := by
   intro k
   induction k with
   | zero => exact ⟨n, Nat.le_refl _, rfl⟩
   | succ k ih =>
    obtain ⟨m, hm, hk⟩ := ih
    simp only [iter, hk]
    rcases Nat.lt_or_ge m n with h1 | h1
    ·exact ⟨m + 1, h1, rfl⟩
    ·have hmn : m = n := by omega
     subst hmn
     refine ⟨m + 1 - (j - i), by omega, ?_⟩
     have := hper (m + 1 - (j - i)) (by omega)
     rw [show m + 1 - (j - i) + (j - i) = m + 1 by omega] at this
     exact this
  obtain ⟨m, hm, hk⟩ := this k
  rw [hk]; exact hpos m hm

/-- The weight of the edge by which a point was updated. -/
def wt (E : List Ed) (s : Sr) (x : Nat) : Int := match E[s.by_ x]? with | some e => e.w | none => 0

/-- Around a cycle of updated points the weights sum to less than 0. -/
theorem cycle_negative {E : List Ed} {s : Sr} {now : Nat} (h : Inv E s now) {c p : Nat} (hp : 0 < p)
  (hc : iter s.fr p c = c) (hT : ∀ k, 0 < s.T (iter s.fr k c)) : sum p (fun k => wt E s (iter s.fr k c)) < 0 := by
 have hstep : ∀ k, s.d (iter s.fr (k+1) c) + wt E s (iter s.fr k c) <= s.d (iter s.fr k c) /\
   s.T (iter s.fr (k+1) c) ≠ s.T (iter s.fr k c) /\
   (s.T (iter s.fr k c) < s.T (iter s.fr (k+1) c) -> s.d (iter s.fr (k+1) c) + wt E s (iter s.fr k c) < s.d (iter s.fr k c)) := fun k => by
  obtain ⟨e, he, hb, hf, hd, hn, hs, _⟩ := (h.pt _).has (hT k)
  have hw : wt E s (iter s.fr k c) = e.w := by simp only [wt, he]
  have hi : iter s.fr (k+1) c = e.a := hf
  rw [hw, hi]
  exact ⟨hd, hn, hs⟩
 have hsum : ∀ m, s.d (iter s.fr m c) + sum m (fun k => wt E s (iter s.fr k c)) <= s.d c /\
   ((∃ k, k < m /\ s.T (iter s.fr k c) < s.T (iter s.fr (k+1) c)) -> s.d (iter s.fr m c) + sum m (fun k => wt E s (iter s.fr k c)) < s.d c) := by
  intro m
  induction m with
  | zero => exact ⟨by simp [sum, iter], fun ⟨k, hk, _⟩ => by omega⟩
  | succ m ih =>
   obtain ⟨h1, h2⟩ := hstep m
   obtain ⟨h3, h4⟩ := ih
   refine ⟨by simp only [sum]; omega, fun ⟨k, hk, hlt⟩ => ?_⟩
   simp only [sum]
   rcases Nat.lt_or_ge k m with h5 | h5
   ·have := h4 ⟨k, h5, hlt⟩; omega
   ·have : k = m := by omega
    subst this
    have := h2.2 hlt; omega
 have hex : ∃ k, k < p /\ s.T (iter s.fr k c) < s.T (iter s.fr (k+1) c) := by
  apply Classical.byContradiction
  intro hno
  have hdec : ∀ m, m <= p -> s.T (iter s.fr m c) + m <= s.T c := by
   intro m
   induction m with
   | zero => intro _; simp [iter]
   | succ m ih =>
    intro hm
    have h1 := ih (by omega)
    have h2 := (hstep m).2.1
    have h3 : ¬ s.T (iter s.fr m c) < s.T (iter s.fr (m+1) c) := fun h => hno ⟨m, by omega, h⟩
    omega
  have := hdec p (Nat.le_refl p)
  rw [hc] at this; omega
 have := (hsum p).2 hex
 rw [hc] at this; omega

/-! ## The cycle as a closed walk -/

def edgeAt (E : List Ed) (k : Nat) : Ed := (E[k]?).getD ⟨0, 0, 0⟩

/-- The edges by which the points of the chain were updated, in the order of the walk. -/
def walked (E : List Ed) (s : Sr) (c : Nat) : Nat -> List Ed
 | 0 => []
 | p + 1 => edgeAt E (s.by_ (iter s.fr p c)) :: walked E s c p

end Go.Kin.St

/-! Networks: links and their steps. Plain Lean. -/
namespace Go.Kin.St

structure Lk where
 fr : Int
 to : Int
 lo : Int
 hi : Int
deriving DecidableEq

def up (x : Lk) : Ed := ⟨x.fr.toNat, x.to.toNat, x.hi⟩
def dn (x : Lk) : Ed := ⟨x.to.toNat, x.fr.toNat, - x.lo⟩

/-- The steps of a network, in the program's order. -/
def edges : List Lk -> List Ed
 | [] => []
 | x :: l => up x :: dn x :: edges l

/-- ... and in the specification's order. -/
def edges' : List Lk -> List Ed
 | [] => []
 | x :: l => dn x :: up x :: edges' l

theorem edges_mem {l : List Lk} {e : Ed} : e ∈ edges l ↔ ∃ x ∈ l, e = up x ∨ e = dn x := by
 induction l with
 | nil => simp [edges]
 | cons x l ih => simp only [edges, List.mem_cons, ih]; grind

theorem edges_len (l : List Lk) : (edges l).length = 2 * l.length := by
 induction l with
 | nil => rfl
 | cons x l ih => simp only [edges, List.length_cons, ih]; omega

theorem edges_up (l : List Lk) (i : Nat) : (edges l)[2 * i]? = (l[i]?).map up := by
 induction l generalizing i with
 | nil => simp [edges]
 | cons x l ih =>
  cases i with
  | zero => simp [edges]
  | succ i =>
   rw [show 2 * (i + 1) = 2 * i + 1 + 1 by omega]
   simp only [edges, List.getElem?_cons_succ, ih]

theorem edges_dn (l : List Lk) (i : Nat) : (edges l)[2 * i + 1]? = (l[i]?).map dn := by
 induction l generalizing i with
 | nil => simp [edges]
 | cons x l ih =>
  cases i with
  | zero => simp [edges]
  | succ i =>
   rw [show 2 * (i + 1) + 1 = 2 * i + 1 + 1 + 1 by omega]
   simp only [edges, List.getElem?_cons_succ, ih]

/-- A link between points below `n`, with its numbers in their bounds. -/
def Lk.Fine (n : Int) (x : Lk) : Prop :=
 0 <= x.fr /\ x.fr < n /\ 0 <= x.to /\ x.to < n /\ x.fr ≠ x.to /\ -1099511627776 <= x.lo /\ x.lo <= x.hi /\ x.hi <= 1099511627776

instance (n : Int) (x : Lk) : Decidable (x.Fine n) := by unfold Lk.Fine; exact inferInstance

def Fine (n : Int) (l : List Lk) : Prop := ∀ x ∈ l, x.Fine n

instance (n : Int) (l : List Lk) : Decidable (Fine n l) := by unfold Fine; exact inferInstance

theorem Fine.inE {n : Int} {l : List Lk} (h : Fine n l) : In n.toNat (edges l) := by
 intro e he
 obtain ⟨x, hx, rfl | rfl⟩ := edges_mem.1 he
 all_goals
  have := h x hx
  unfold Lk.Fine at this
  simp only [up, dn]; omega

theorem Fine.weights {n : Int} {l : List Lk} (h : Fine n l) : ∀ e ∈ edges l, -1099511627776 <= e.w /\ e.w <= 1099511627776 := by
 intro e he
 obtain ⟨x, hx, rfl | rfl⟩ := edges_mem.1 he
 all_goals
  have := h x hx
  unfold Lk.Fine at this
  simp only [up, dn]; omega

/-- A schedule, by its definition. -/
theorem sol_links (l : List Lk) (t : Nat -> Int) :
  Sol (edges l) t ↔ ∀ x ∈ l, x.lo <= t x.to.toNat - t x.fr.toNat /\ t x.to.toNat - t x.fr.toNat <= x.hi := by
 constructor
 ·intro h x hx
  have h1 := h (up x) (edges_mem.2 ⟨x, hx, Or.inl rfl⟩)
  have h2 := h (dn x) (edges_mem.2 ⟨x, hx, Or.inr rfl⟩)
  simp only [up, dn] at h1 h2
  omega
 ·intro h e he
  obtain ⟨x, hx, rfl | rfl⟩ := edges_mem.1 he
  all_goals
   have := h x hx
   simp only [up, dn]; omega

end Go.Kin.St
