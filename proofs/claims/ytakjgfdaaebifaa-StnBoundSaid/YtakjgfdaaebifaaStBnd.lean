import Derived.Test.YtakjgfdaaebifaaStMath
set_option linter.unusedSectionVars false
set_option linter.unusedVariables false
set_option linter.unusedSimpArgs false
/-! The greatest difference of two times: lowering passes are raising passes of the network turned about. Plain Lean. -/
namespace Go.Kin.St

def flip (e : Ed) : Ed := ⟨e.b, e.a, e.w⟩
def neg (t : Nat → Int) : Nat → Int := fun x => - t x
def low (t : Nat → Int) (e : Ed) : Nat → Int := upd t e.b (min (t e.b) (t e.a + e.w))
def lows (E : List Ed) (t : Nat → Int) : Nat → Int := E.foldl low t
def lowers (E : List Ed) : Nat → (Nat → Int) → (Nat → Int)
  | 0, t => t
  | k + 1, t => lows E (lowers E k t)

theorem neg_neg' (t : Nat → Int) : neg (neg t) = t := by funext x; simp [neg]

theorem low_flip (t : Nat → Int) (e : Ed) : low t e = neg (raise (neg t) (flip e)) := by
  funext x
  simp only [low, neg, raise, flip, upd]
  split
  · omega
  · omega

theorem lows_flip (E : List Ed) (t : Nat → Int) : lows E t = neg (pass (E.map flip) (neg t)) := by
  induction E generalizing t with
  | nil => simp [lows, pass, neg_neg']
  | cons e E ih =>
    show lows E (low t e) = _
    rw [ih, low_flip, neg_neg']; rfl

theorem lowers_flip (E : List Ed) (k : Nat) (t : Nat → Int) : lowers E k t = neg (passes (E.map flip) k (neg t)) := by
  induction k with
  | zero => simp [lowers, passes, neg_neg']
  | succ k ih => simp only [lowers, passes, ih, lows_flip, neg_neg']

theorem sol_flip (E : List Ed) (t : Nat → Int) : Sol (E.map flip) (neg t) ↔ Sol E t := by
  constructor
  · intro h e he
    have := h (flip e) (List.mem_map_of_mem he)
    simp only [flip, neg] at this; omega
  · intro h e he
    obtain ⟨f, hf, rfl⟩ := List.mem_map.1 he
    have := h f hf
    simp only [flip, neg]; omega

theorem in_flip {n : Nat} {E : List Ed} (h : In n E) : In n (E.map flip) := by
  intro e he
  obtain ⟨f, hf, rfl⟩ := List.mem_map.1 he
  exact ⟨(h f hf).2, (h f hf).1⟩

theorem lowers_le (E : List Ed) (k : Nat) (I : Nat → Int) (x : Nat) : lowers E k I x ≤ I x := by
  rw [lowers_flip]
  have := passes_ge (E.map flip) k (neg I) x
  simp only [neg] at this ⊢; omega

theorem lowers_ge {n : Nat} {E : List Ed} (hE : In n E) {I s : Nat → Int} (hs : Sol E s) (hp : ∀ x, x < n → s x ≤ I x) (k : Nat) :
    ∀ x, x < n → s x ≤ lowers E k I x := by
  intro x hx
  rw [lowers_flip]
  have := passes_le (in_flip hE) ((sol_flip E s).2 hs) (I := neg I) (fun x hx => by have := hp x hx; simp only [neg]; omega) k x hx
  simp only [neg] at this ⊢; omega

theorem lowers_sol {n : Nat} {E : List Ed} (hE : In n E) {I s : Nat → Int} (hs : Sol E s) {k : Nat} (hk : n ≤ k) :
    Sol E (lowers E k I) := by
  obtain ⟨c, hc⟩ := lift n (neg I) (neg s)
  rw [lowers_flip, ← sol_flip, neg_neg']
  exact passes_sol (in_flip hE) (sol_shift ((sol_flip E s).2 hs) c) hc hk

/-- If n lowering passes do not suffice, nothing is a schedule. -/
theorem lowers_none {n : Nat} {E : List Ed} (hE : In n E) {I : Nat → Int} {k : Nat} (hk : n ≤ k) (h : ¬ Sol E (lowers E k I)) (s : Nat → Int) :
    ¬ Sol E s := fun hs => h (lowers_sol hE hs hk)

/-! ## Distances, and whether they are known -/

def reach (p : (Nat → Int) × (Nat → Bool)) (e : Ed) : (Nat → Int) × (Nat → Bool) :=
  if p.2 e.a = true ∧ (p.2 e.b = false ∨ p.1 e.a + e.w < p.1 e.b) then (upd p.1 e.b (p.1 e.a + e.w), upd p.2 e.b true) else p

def reachs (E : List Ed) (p : (Nat → Int) × (Nat → Bool)) : (Nat → Int) × (Nat → Bool) := E.foldl reach p

def reached (E : List Ed) : Nat → (Nat → Int) × (Nat → Bool) → (Nat → Int) × (Nat → Bool)
  | 0, p => p
  | k + 1, p => reachs E (reached E k p)

/-- What is not known is far. -/
def sees (s : Nat → Int) (c M : Int) (p : (Nat → Int) × (Nat → Bool)) : Nat → Int := fun x => if p.2 x = true then p.1 x else s x - c + M

/-- Bounds of all that is known. -/
def Near (n : Nat) (B : Int) (p : (Nat → Int) × (Nat → Bool)) : Prop := ∀ x, x < n → p.2 x = true → p.1 x ≤ B

theorem reach_sees {n : Nat} {s : Nat → Int} {c M B : Int} {p : (Nat → Int) × (Nat → Bool)} {e : Ed}
    (ha : e.a < n) (hb : e.b < n) (hs : s e.b - s e.a ≤ e.w)
    (hB : Near n B p) (hM : ∀ x, x < n → B + e.w < s x - c + M) (hM0 : ∀ x, x < n → B ≤ s x - c + M) :
    ∀ x, sees s c M (reach p e) x = low (sees s c M p) e x := by
  intro x
  have h1 := hB e.a ha
  have h2 := hB e.b hb
  have h3 := hM e.b hb
  have h4 := hM0 e.b hb
  unfold reach
  by_cases hc : p.2 e.a = true ∧ (p.2 e.b = false ∨ p.1 e.a + e.w < p.1 e.b)
  · rw [if_pos hc]
    obtain ⟨hpa, hor⟩ := hc
    have h1 := h1 hpa
    simp only [low, sees, upd, hpa, if_true]
    by_cases hx : x = e.b
    · subst hx
      simp only [if_true]
      by_cases hpb : p.2 e.b = true
      · have h2 := h2 hpb
        rcases hor with hf | hlt
        · rw [hf] at hpb; cases hpb
        · simp only [hpb, if_true]; omega
      · simp only [hpb]; simp only [Bool.false_eq_true, if_false]; omega
    · simp only [hx, if_false]
  · rw [if_neg hc]
    simp only [low, sees, upd]
    by_cases hx : x = e.b
    · subst hx
      simp only [if_true]
      by_cases hpa : p.2 e.a = true
      · have h1 := h1 hpa
        by_cases hpb : p.2 e.b = true
        · have hlt : ¬ p.1 e.a + e.w < p.1 e.b := fun h => hc ⟨hpa, Or.inr h⟩
          simp only [hpa, hpb, if_true]; omega
        · exact absurd ⟨hpa, Or.inl (by simpa using hpb)⟩ hc
      · by_cases hpb : p.2 e.b = true
        · have h2 := h2 hpb
          rw [if_pos hpb, if_neg hpa]; omega
        · rw [if_neg hpb, if_neg hpa]; omega
    · rw [if_neg hx]

theorem known_mono {p : Nat → Bool} {b x : Nat} (hx : p x = true) : (upd p b true) x = true := by
  simp only [upd]; split
  · rfl
  · exact hx

/-- Bounds by the number of known points: with `W` as the greatest weight, known distances are at most (known − 1) W. -/
def Low (n : Nat) (W : Int) (p : (Nat → Int) × (Nat → Bool)) : Prop :=
  1 ≤ cnt n (fun x => p.2 x = true) ∧ ∀ x, x < n → p.2 x = true → p.1 x ≤ (((cnt n (fun x => p.2 x = true) : Nat) : Int) - 1) * W

theorem reach_low {n : Nat} {W : Int} (hW : 0 ≤ W) {p : (Nat → Int) × (Nat → Bool)} {e : Ed} (ha : e.a < n) (hb : e.b < n) (hw : e.w ≤ W)
    (h : Low n W p) : Low n W (reach p e) := by
  obtain ⟨h0, h1⟩ := h
  unfold reach
  by_cases hc : p.2 e.a = true ∧ (p.2 e.b = false ∨ p.1 e.a + e.w < p.1 e.b)
  · rw [if_pos hc]
    have hle : cnt n (fun x => p.2 x = true) ≤ cnt n (fun x => (upd p.2 e.b true) x = true) :=
      cnt_mono (fun x _ hx => known_mono hx)
    refine ⟨by show 1 ≤ cnt n (fun x => (upd p.2 e.b true) x = true); omega, fun x hx hm => ?_⟩
    show (upd p.1 e.b (p.1 e.a + e.w)) x ≤ (((cnt n (fun x => (upd p.2 e.b true) x = true) : Nat) : Int) - 1) * W
    have hmul : (((cnt n (fun x => p.2 x = true) : Nat) : Int) - 1) * W ≤ (((cnt n (fun x => (upd p.2 e.b true) x = true) : Nat) : Int) - 1) * W :=
      Int.mul_le_mul_of_nonneg_right (by omega) hW
    have hxa := h1 e.a ha hc.1
    by_cases hxb : x = e.b
    · subst hxb
      rw [upd_self]
      rcases hc.2 with hf | hlt
      · have hlt := cnt_lt (n := n) (p := fun x => p.2 x = true) (q := fun x => (upd p.2 e.b true) x = true)
          (fun x _ hx => known_mono hx) hb (by simp [hf]) (by simp [upd])
        have : ((((cnt n (fun x => p.2 x = true) : Nat) : Int) - 1) + 1) * W ≤ (((cnt n (fun x => (upd p.2 e.b true) x = true) : Nat) : Int) - 1) * W :=
          Int.mul_le_mul_of_nonneg_right (by omega) hW
        rw [Int.add_mul, Int.one_mul] at this
        omega
      · by_cases hpb : p.2 e.b = true
        · have := h1 e.b hb hpb; omega
        · have hlt := cnt_lt (n := n) (p := fun x => p.2 x = true) (q := fun x => (upd p.2 e.b true) x = true)
            (fun x _ hx => known_mono hx) hb hpb (by simp [upd])
          have : ((((cnt n (fun x => p.2 x = true) : Nat) : Int) - 1) + 1) * W ≤ (((cnt n (fun x => (upd p.2 e.b true) x = true) : Nat) : Int) - 1) * W :=
            Int.mul_le_mul_of_nonneg_right (by omega) hW
          rw [Int.add_mul, Int.one_mul] at this
          omega
    · rw [upd_other _ _ hxb]
      have : (upd p.2 e.b true) x = true := hm
      rw [upd_other _ _ hxb] at this
      have := h1 x hx this
      omega
  · rw [if_neg hc]; exact ⟨h0, h1⟩

theorem reachs_low {n : Nat} {W : Int} (hW : 0 ≤ W) {E : List Ed} (hE : In n E) (hw : ∀ e ∈ E, e.w ≤ W) {p : (Nat → Int) × (Nat → Bool)}
    (h : Low n W p) : Low n W (reachs E p) := by
  induction E generalizing p with
  | nil => exact h
  | cons e E ih =>
    exact ih (fun f hf => hE f (List.mem_cons_of_mem _ hf)) (fun f hf => hw f (List.mem_cons_of_mem _ hf))
      (reach_low hW (hE e List.mem_cons_self).1 (hE e List.mem_cons_self).2 (hw e List.mem_cons_self) h)

theorem reached_low {n : Nat} {W : Int} (hW : 0 ≤ W) {E : List Ed} (hE : In n E) (hw : ∀ e ∈ E, e.w ≤ W) {p : (Nat → Int) × (Nat → Bool)}
    (h : Low n W p) (k : Nat) : Low n W (reached E k p) := by
  induction k with
  | zero => exact h
  | succ k ih => exact reachs_low hW hE hw ih

theorem Low.near {n : Nat} {W : Int} (hW : 0 ≤ W) {p : (Nat → Int) × (Nat → Bool)} (h : Low n W p) : Near n (n * W) p := by
  intro x hx hm
  have h1 := h.2 x hx hm
  have h2 := cnt_le n (fun x => p.2 x = true)
  have : (((cnt n (fun x => p.2 x = true) : Nat) : Int) - 1) * W ≤ (n : Int) * W := Int.mul_le_mul_of_nonneg_right (by omega) hW
  omega

theorem reachs_sees {n : Nat} {W : Int} (hW : 0 ≤ W) {E : List Ed} (hE : In n E) (hw : ∀ e ∈ E, e.w ≤ W) {s : Nat → Int} (hs : Sol E s)
    {c M : Int} (hM : ∀ x, x < n → n * W + W < s x - c + M) {p : (Nat → Int) × (Nat → Bool)}
    (h : Low n W p) : sees s c M (reachs E p) = lows E (sees s c M p) := by
  induction E generalizing p with
  | nil => rfl
  | cons e E ih =>
    have he := hE e List.mem_cons_self
    have h1 := reach_low hW he.1 he.2 (hw e List.mem_cons_self) h
    have h2 : sees s c M (reach p e) = low (sees s c M p) e := by
      funext x
      have hwe := hw e List.mem_cons_self
      exact reach_sees he.1 he.2 (hs e List.mem_cons_self) (h.near hW) (fun x hx => by have := hM x hx; omega)
        (fun x hx => by have := hM x hx; omega) x
    show sees s c M (reachs E (reach p e)) = lows E (low (sees s c M p) e)
    rw [← h2]
    exact ih (fun f hf => hE f (List.mem_cons_of_mem _ hf)) (fun f hf => hw f (List.mem_cons_of_mem _ hf)) (fun f hf => hs f (List.mem_cons_of_mem _ hf)) h1

theorem reached_sees {n : Nat} {W : Int} (hW : 0 ≤ W) {E : List Ed} (hE : In n E) (hw : ∀ e ∈ E, e.w ≤ W) {s : Nat → Int} (hs : Sol E s)
    {c M : Int} (hM : ∀ x, x < n → n * W + W < s x - c + M) {p : (Nat → Int) × (Nat → Bool)}
    (h : Low n W p) (k : Nat) : sees s c M (reached E k p) = lowers E k (sees s c M p) := by
  induction k with
  | zero => rfl
  | succ k ih =>
    show sees s c M (reachs E (reached E k p)) = lows E (lowers E k (sees s c M p))
    rw [reachs_sees hW hE hw hs hM (reached_low hW hE hw h k), ih]

/-! ## What a bound means -/

theorem reach_zero {p : (Nat → Int) × (Nat → Bool)} {e : Ed} (h : ∀ x, p.2 x = false → p.1 x = 0) :
    ∀ x, (reach p e).2 x = false → (reach p e).1 x = 0 := by
  intro x
  unfold reach
  split
  · intro hx
    have hx : (upd p.2 e.b true) x = false := hx
    show (upd p.1 e.b (p.1 e.a + e.w)) x = 0
    by_cases hxb : x = e.b
    · subst hxb; rw [upd_self] at hx; cases hx
    · rw [upd_other _ _ hxb] at hx ⊢; exact h x hx
  · exact h x

theorem reachs_zero {E : List Ed} {p : (Nat → Int) × (Nat → Bool)} (h : ∀ x, p.2 x = false → p.1 x = 0) :
    ∀ x, (reachs E p).2 x = false → (reachs E p).1 x = 0 := by
  induction E generalizing p with
  | nil => exact h
  | cons e E ih => exact ih (reach_zero h)

theorem reached_zero {E : List Ed} {p : (Nat → Int) × (Nat → Bool)} (h : ∀ x, p.2 x = false → p.1 x = 0) (k : Nat) :
    ∀ x, (reached E k p).2 x = false → (reached E k p).1 x = 0 := by
  induction k with
  | zero => exact h
  | succ k ih => exact reachs_zero ih

def origin (a : Nat) : (Nat → Int) × (Nat → Bool) := (fun _ => 0, fun x => decide (x = a))

theorem origin_low {n a : Nat} (ha : a < n) {W : Int} (hW : 0 ≤ W) : Low n W (origin a) := by
  have h : 1 ≤ cnt n (fun x => (origin a).2 x = true) := by
    have := cnt_lt (n := n) (p := fun _ => False) (q := fun x => (origin a).2 x = true) (fun _ _ h => h.elim) ha (fun h => h) (by simp [origin])
    omega
  refine ⟨h, fun x _ _ => ?_⟩
  have := Int.mul_le_mul_of_nonneg_right (a := 0) (b := ((cnt n (fun x => (origin a).2 x = true) : Nat) : Int) - 1) (by omega) hW
  rw [Int.zero_mul] at this
  exact this

/-- What the distances mean: the greatest differences, or none. -/
theorem bound_means {n : Nat} {W : Int} (hW : 0 ≤ W) {E : List Ed} (hE : In n E) (hw : ∀ e ∈ E, e.w ≤ W) {s : Nat → Int} (hs : Sol E s)
    {a b : Nat} (ha : a < n) (hb : b < n) {k : Nat} (hk : n ≤ k) :
    ((reached E k (origin a)).2 b = true → (∀ t, Sol E t → t b - t a ≤ (reached E k (origin a)).1 b) ∧ ∃ t, Sol E t ∧ t b - t a = (reached E k (origin a)).1 b) ∧
    ((reached E k (origin a)).2 b = false → (reached E k (origin a)).1 b = 0 ∧ ∀ v, ∃ t, Sol E t ∧ v ≤ t b - t a) := by
  have key : ∀ (t : Nat → Int), Sol E t → ∀ v, ∃ M G, v ≤ M ∧ Sol E G ∧ G a = 0 ∧ (∀ x, x < n → t x - t a ≤ G x) ∧
      G = sees s (s a) M (reached E k (origin a)) := by
    intro t ht v
    obtain ⟨c1, h1⟩ := lift n (fun _ => n * W + W + 1) (fun x => s x - s a)
    obtain ⟨c2, h2⟩ := lift n (fun x => t x - t a) (fun x => s x - s a)
    have hM : ∀ x, x < n → n * W + W < s x - s a + max v (max c1 c2) := fun x hx => by have := h1 x hx; omega
    have hr := reached_sees hW hE hw hs hM (origin_low ha hW) k
    have hI : ∀ u : Nat → Int, (∀ x, x < n → u x - u a ≤ s x - s a + max v (max c1 c2)) → ∀ x, x < n →
        u x - u a ≤ sees s (s a) (max v (max c1 c2)) (origin a) x := fun u hu x hx => by
      simp only [sees, origin]
      by_cases hxa : x = a
      · subst hxa; simp
      · simp only [hxa, decide_false, Bool.false_eq_true, if_false]; exact hu x hx
    have hge : ∀ u : Nat → Int, Sol E u → (∀ x, x < n → u x - u a ≤ s x - s a + max v (max c1 c2)) → ∀ x, x < n →
        u x - u a ≤ sees s (s a) (max v (max c1 c2)) (reached E k (origin a)) x := fun u hu hle x hx => by
      rw [hr]
      have := lowers_ge hE (sol_shift hu (- u a)) (I := sees s (s a) (max v (max c1 c2)) (origin a)) (fun x hx => by have := hI u hle x hx; omega) k x hx
      omega
    have hsM : ∀ x, x < n → 0 ≤ max v (max c1 c2) := fun x hx => by
      have := h1 a ha
      have : (0 : Int) ≤ n * W := Int.mul_nonneg (by omega) hW
      omega
    refine ⟨max v (max c1 c2), _, by omega, ?_, ?_, hge t ht (fun x hx => by have := h2 x hx; omega), rfl⟩
    · rw [hr]; exact lowers_sol hE hs hk
    · have h3 := hge s hs (fun x hx => by have := hsM x hx; omega) a ha
      have h4 : sees s (s a) (max v (max c1 c2)) (reached E k (origin a)) a ≤ 0 := by
        rw [hr]
        refine Int.le_trans (lowers_le _ _ _ _) ?_
        simp [sees, origin]
      omega
  constructor
  · intro hm
    refine ⟨fun t ht => ?_, ?_⟩
    · obtain ⟨M, G, _, _, _, hle, hG⟩ := key t ht 0
      have := hle b hb
      rw [hG] at this
      simp only [sees, hm, if_true] at this
      exact this
    · obtain ⟨M, G, _, hS, h0, _, hG⟩ := key s hs 0
      refine ⟨G, hS, ?_⟩
      rw [h0, hG]
      simp only [sees, hm, if_true]; omega
  · intro hm
    refine ⟨reached_zero (fun x hx => rfl) k b hm, fun v => ?_⟩
    obtain ⟨M, G, hv, hS, h0, _, hG⟩ := key s hs (v - (s b - s a))
    refine ⟨G, hS, ?_⟩
    rw [h0, hG]
    simp only [sees, hm, Bool.false_eq_true, if_false]; omega

/-- Between two differences lie no gaps. -/
theorem between {E : List Ed} {a b : Nat} {t u : Nat → Int} (ht : Sol E t) (hu : Sol E u) {v : Int}
    (h1 : t b - t a ≤ v) (h2 : v ≤ u b - u a) : ∃ r, Sol E r ∧ r b - r a = v := by
  refine ⟨fun x => min (u x + (- u a)) (t x + (- t a + (v - (t b - t a)))), sol_min (sol_shift hu _) (sol_shift ht _), ?_⟩
  show min (u b + - u a) (t b + (- t a + (v - (t b - t a)))) - min (u a + - u a) (t a + (- t a + (v - (t b - t a)))) = v
  omega

/-- The least times are not far from 0: below a gap nothing holds the others up. -/
theorem least_bound {n : Nat} {W : Int} (hW : 0 ≤ W) {E : List Ed} (hE : In n E) (hw : ∀ e ∈ E, - W ≤ e.w) {L : Nat → Int}
    (hL : Least n E (fun _ => 0) L) : ∀ x, x < n → L x ≤ n * W := by
  have hgap : ∀ K : Int, (∀ x, x < n → L x ≤ K ∨ K + W < L x) → (∀ x, x < n → K < L x → 0 < L x) → ∀ x, x < n → L x ≤ K := by
    intro K hK hpos x hx
    apply Classical.byContradiction
    intro hxK
    let M : Nat → Int := fun y => if K < L y then L y - 1 else L y
    have hM : Sol E M := fun e he => by
      have h1 := hL.sol e he
      have h2 := hE e he
      have h3 := hK e.a h2.1
      have h4 := hK e.b h2.2
      have h5 := hw e he
      simp only [M]
      split <;> split <;> omega
    have := hL.le M hM (fun y hy => by
      have h1 := hpos y hy
      have h2 := hL.pos y hy
      simp only [M]; split <;> omega) x hx
    simp only [M, show K < L x by omega, if_true] at this
    omega
  have hcnt : ∀ k : Nat, k ≤ n → k ≤ cnt n (fun x => L x ≤ (k : Int) * W) := by
    intro k
    induction k with
    | zero => intro _; exact Nat.zero_le _
    | succ k ih =>
      intro hk
      have h1 := ih (by omega)
      have hkW : ((k : Int) + 1) * W = k * W + W := by rw [Int.add_mul, Int.one_mul]
      have hkn : (0 : Int) ≤ k * W := Int.mul_nonneg (by omega) hW
      have hmono : ∀ x, x < n → L x ≤ (k : Int) * W → L x ≤ ((k + 1 : Nat) : Int) * W := fun x _ h => by
        rw [Int.natCast_add, Int.natCast_one, hkW]; omega
      by_cases hall : ∀ x, x < n → L x ≤ (k : Int) * W
      · have : ∀ m, m ≤ n → m ≤ cnt m (fun x => L x ≤ ((k + 1 : Nat) : Int) * W) := by
          intro m
          induction m with
          | zero => intro _; exact Nat.zero_le _
          | succ m ihm =>
            intro hm
            have h2 := ihm (by omega)
            have h3 := hmono m (by omega) (hall m (by omega))
            simp only [cnt]; rw [if_pos h3]; omega
        exact Nat.le_trans hk (this n (Nat.le_refl n))
      · have ⟨x, hx, hxk⟩ : ∃ x, x < n ∧ ¬ L x ≤ (k : Int) * W := by
          apply Classical.byContradiction
          intro hh
          apply hall
          intro x hx
          apply Classical.byContradiction
          intro h
          exact hh ⟨x, hx, h⟩
        have ⟨y, hy, hy1, hy2⟩ : ∃ y, y < n ∧ (k : Int) * W < L y ∧ L y ≤ k * W + W := by
          apply Classical.byContradiction
          intro hh
          have := hgap (k * W) (fun y hy => by
            rcases Int.lt_or_le (k * W) (L y) with h | h
            · rcases Int.lt_or_le (k * W + W) (L y) with h' | h'
              · exact Or.inr h'
              · exact absurd ⟨y, hy, h, h'⟩ hh
            · exact Or.inl h) (fun y _ h => by omega) x hx
          exact hxk this
        have := cnt_lt (n := n) (p := fun x => L x ≤ (k : Int) * W) (q := fun x => L x ≤ ((k + 1 : Nat) : Int) * W) hmono hy (by omega)
          (by rw [Int.natCast_add, Int.natCast_one, hkW]; exact hy2)
        omega
  exact cnt_all (hcnt n (Nat.le_refl n))

/-! ## Closed walks -/

def follows : Nat → List Ed → Prop
  | _, [] => True
  | p, e :: l => e.a = p ∧ follows e.b l

def endOf (p : Nat) (l : List Ed) : Nat := l.foldl (fun _ e => e.b) p
def weight : List Ed → Int
  | [] => 0
  | e :: l => e.w + weight l

theorem follows_sum {p : Nat} {l : List Ed} (h : follows p l) {t : Nat → Int} (ht : Sol l t) : t (endOf p l) - t p ≤ weight l := by
  induction l generalizing p with
  | nil => simp [endOf, weight]
  | cons e l ih =>
    obtain ⟨rfl, h⟩ := h
    have h1 := ih h (fun f hf => ht f (List.mem_cons_of_mem _ hf))
    have h2 := ht e List.mem_cons_self
    simp only [weight]
    show t (endOf e.b l) - t e.a ≤ _
    omega

/-- A closed walk of negative weight leaves no schedule. -/
theorem closed_none {E l : List Ed} {p : Nat} (h : follows p l) (he : endOf p l = p) (hw : weight l < 0) (hl : ∀ e ∈ l, e ∈ E) (t : Nat → Int) :
    ¬ Sol E t := fun ht => by
  have := follows_sum h (fun e he => ht e (hl e he)) (t := t)
  rw [he] at this; omega

end Go.Kin.St
