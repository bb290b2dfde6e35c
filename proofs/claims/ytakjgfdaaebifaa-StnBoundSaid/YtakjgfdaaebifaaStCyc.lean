import Derived.Test.YtakjgfdaaebifaaStBnd
set_option linter.unusedSectionVars false
set_option linter.unusedVariables false
set_option linter.unusedSimpArgs false
/-! The search for a negative cycle: stamps of the last update, and why `from` leads into a negative cycle. Plain Lean. -/
namespace Go.Kin.St

/-- The state of the search: distances, the points they came from, the edges' numbers, and (a ghost) the time of the last update. -/
structure Sr where
  d : Nat → Int
  fr : Nat → Nat
  by_ : Nat → Nat
  T : Nat → Nat

/-- One edge, with its number `k`, at the time `now`. -/
def Sr.step (s : Sr) (e : Ed) (k now : Nat) : Sr :=
  if s.d e.a + e.w < s.d e.b then ⟨upd s.d e.b (s.d e.a + e.w), upd s.fr e.b e.a, upd s.by_ e.b k, upd s.T e.b now⟩ else s

def Loopless (E : List Ed) : Prop := ∀ e ∈ E, e.a ≠ e.b

/-- What holds of a point that was updated. -/
structure Pt (E : List Ed) (s : Sr) (now x : Nat) : Prop where
  le : s.T x ≤ now
  has : 0 < s.T x → ∃ e, E[s.by_ x]? = some e ∧ e.b = x ∧ s.fr x = e.a ∧ s.d e.a + e.w ≤ s.d x ∧ s.T e.a ≠ s.T x ∧
    (s.T x < s.T e.a → s.d e.a + e.w < s.d x) ∧ (E.length < s.T x → s.T x < s.T e.a + E.length)

structure Inv (E : List Ed) (s : Sr) (now : Nat) : Prop where
  pt : ∀ x, Pt E s now x
  ed : ∀ τ, 1 ≤ τ → τ ≤ now → now < τ + E.length → ∀ e, E[(τ - 1) % E.length]? = some e → s.T e.a ≤ τ → s.d e.b ≤ s.d e.a + e.w

theorem Inv.start (E : List Ed) (f b : Nat → Nat) : Inv E ⟨fun _ => 0, f, b, fun _ => 0⟩ 0 :=
  ⟨fun x => ⟨Nat.le_refl _, fun h => absurd h (by simp)⟩, fun τ h1 h2 => by omega⟩

theorem Inv.next {E : List Ed} {s : Sr} {now : Nat} (h : Inv E s now) (hl : Loopless E) {e : Ed} (he : E[now % E.length]? = some e) :
    Inv E (s.step e (now % E.length) (now + 1)) (now + 1) := by
  have hm : 0 < E.length := by
    rcases Nat.eq_zero_or_pos E.length with h0 | h0
    · have : E = [] := List.length_eq_zero_iff.1 h0
      subst this; simp at he
    · exact h0
  have hne : e.a ≠ e.b := hl e (List.mem_of_getElem? he)
  unfold Sr.step
  by_cases hf : s.d e.a + e.w < s.d e.b
  · rw [if_pos hf]
    refine ⟨fun x => ?_, fun τ h1 h2 h3 g hg ht => ?_⟩
    · have hx := h.pt x
      by_cases hxb : x = e.b
      · subst hxb
        refine ⟨by simp [upd], fun _ => ⟨e, ?_⟩⟩
        have ha := (h.pt e.a).le
        simp only [upd_self, upd_other _ _ hne]
        refine ⟨he, trivial, trivial, Int.le_refl _, by omega, fun hlt => by omega, fun hlt => ?_⟩
        rcases Nat.lt_or_ge (s.T e.a) (now + 1 - E.length + 1) with hc | hc
        · have := h.ed (now + 1 - E.length) (by omega) (by omega) (by omega) e (by
            have : (now + 1 - E.length - 1) % E.length = now % E.length := by
              obtain ⟨q, hq⟩ : ∃ q, now = q + E.length := ⟨now - E.length, by omega⟩
              rw [show now + 1 - E.length - 1 = q by omega, hq, Nat.add_mod_right]
            rw [this]; exact he) (by omega)
          omega
        · omega
      · refine ⟨by simp only [upd_other _ _ hxb]; have := hx.le; omega, fun hp => ?_⟩
        simp only [upd_other _ _ hxb] at hp
        obtain ⟨g, hg, hgb, hgf, hd, hT, hs, hr⟩ := hx.has hp
        refine ⟨g, ?_⟩
        simp only [upd_other _ _ hxb]
        by_cases hga : g.a = e.b
        · have hle := hx.le
          simp only [hga, upd_self] at hd hT hs hr ⊢
          exact ⟨hg, hgb, by omega, by omega, by omega, fun _ => by omega, fun _ => by omega⟩
        · simp only [upd_other _ _ hga]
          exact ⟨hg, hgb, hgf, hd, hT, hs, hr⟩
    · rcases Nat.lt_or_ge now τ with h4 | h4
      · have : τ = now + 1 := by omega
        subst this
        simp only [Nat.add_sub_cancel] at hg
        rw [he] at hg; cases hg
        simp only [upd_self, upd_other _ _ hne]; omega
      · by_cases hga : g.a = e.b
        · simp only [hga, upd_self] at ht; omega
        · simp only [upd_other _ _ hga] at ht ⊢
          have := h.ed τ h1 h4 (by omega) g hg ht
          by_cases hgb : g.b = e.b
          · simp only [hgb, upd_self] at this ⊢; omega
          · simp only [upd_other _ _ hgb]; exact this
  · rw [if_neg hf]
    refine ⟨fun x => ⟨Nat.le_succ_of_le (h.pt x).le, (h.pt x).has⟩, fun τ h1 h2 h3 g hg ht => ?_⟩
    rcases Nat.lt_or_ge now τ with h4 | h4
    · have : τ = now + 1 := by omega
      subst this
      simp only [Nat.add_sub_cancel] at hg
      rw [he] at hg; cases hg
      omega
    · exact h.ed τ h1 h4 (by omega) g hg ht

/-! ## Chains -/

def iter {α : Type} (f : α → α) : Nat → α → α
  | 0, x => x
  | k + 1, x => f (iter f k x)

theorem iter_add {α : Type} (f : α → α) (i j : Nat) (x : α) : iter f (i + j) x = iter f i (iter f j x) := by
  induction i with
  | zero => simp [iter]
  | succ i ih => rw [show i + 1 + j = (i + j) + 1 by omega]; simp only [iter, ih]

theorem chain_stamp {E : List Ed} {s : Sr} {now : Nat} (h : Inv E s now) (k : Nat) : ∀ j x, j * E.length < s.T x → k ≤ j →
    (j - k) * E.length < s.T (iter s.fr k x) := by
  induction k with
  | zero => intro j x hx _; simpa [iter] using hx
  | succ k ih =>
    intro j x hx hk
    have h1 := ih j x hx (by omega)
    have h2 := (h.pt (iter s.fr k x))
    obtain ⟨i, hi⟩ : ∃ i, j - k = i + 1 := ⟨j - k - 1, by omega⟩
    rw [hi, Nat.succ_mul] at h1
    obtain ⟨e, _, _, hf, _, _, _, hr⟩ := h2.has (by omega)
    have h3 := hr (by omega)
    show (j - (k + 1)) * E.length < s.T (s.fr (iter s.fr k x))
    rw [hf, show j - (k + 1) = i by omega]
    omega

/-- Among n + 1 numbers below n, two are equal. -/
theorem pigeon : ∀ (n : Nat) (f : Nat → Nat), (∀ i, i ≤ n → f i < n) → ∃ i j, i < j ∧ j ≤ n ∧ f i = f j := by
  intro n
  induction n with
  | zero => intro f h; have := h 0 (Nat.le_refl 0); omega
  | succ n ih =>
    intro f h
    by_cases hx : ∃ i, i ≤ n ∧ f i = f (n + 1)
    · obtain ⟨i, hi, he⟩ := hx
      exact ⟨i, n + 1, by omega, Nat.le_refl _, he⟩
    · have hn : ∀ i, i ≤ n → f i ≠ f (n + 1) := fun i hi he => hx ⟨i, hi, he⟩
      -- the last value gives way to n
      let g : Nat → Nat := fun i => if f i = n then f (n + 1) else f i
      have hg : ∀ i, i ≤ n → g i < n := fun i hi => by
        have h1 := h i (by omega)
        have h2 := h (n + 1) (Nat.le_refl _)
        have h3 := hn i hi
        simp only [g]; split <;> omega
      obtain ⟨i, j, hij, hj, he⟩ := ih g hg
      refine ⟨i, j, hij, by omega, ?_⟩
      have h1 := hn i (by omega)
      have h2 := hn j hj
      simp only [g] at he
      split at he <;> split at he <;> omega

/-- The point that `n` steps back lead to lies on a cycle of updated points. -/
theorem on_cycle {E : List Ed} {s : Sr} {now n : Nat} (h : Inv E s now) (hE : In n E) {x : Nat} (hx : n * E.length < s.T x) :
    (∃ p, 0 < p ∧ p ≤ n ∧ iter s.fr p (iter s.fr n x) = iter s.fr n x) ∧ ∀ k, 0 < s.T (iter s.fr k (iter s.fr n x)) := by
  have hpos : ∀ k, k ≤ n → 0 < s.T (iter s.fr k x) := fun k hk => by
    have := chain_stamp h k n x hx hk; omega
  have hlt : ∀ k, k ≤ n → iter s.fr k x < n := fun k hk => by
    obtain ⟨e, he, hb, _⟩ := (h.pt _).has (hpos k hk)
    have := (hE e (List.mem_of_getElem? he)).2
    omega
  obtain ⟨i, j, hij, hj, he⟩ := pigeon n (fun k => iter s.fr k x) hlt
  have hper : ∀ k, i ≤ k → iter s.fr (k + (j - i)) x = iter s.fr k x := fun k hk => by
    rw [show k + (j - i) = (k - i) + j by omega, iter_add, ← he, ← iter_add]
    congr 1; omega
  refine ⟨⟨j - i, by omega, by omega, ?_⟩, fun k => ?_⟩
  · rw [← iter_add, Nat.add_comm]; exact hper n (by omega)
  · have : ∀ k, ∃ m, m ≤ n ∧ iter s.fr k (iter s.fr n x) = iter s.fr m x := by
      intro k
      induction k with
      | zero => exact ⟨n, Nat.le_refl _, rfl⟩
      | succ k ih =>
        obtain ⟨m, hm, hk⟩ := ih
        simp only [iter, hk]
        rcases Nat.lt_or_ge m n with h1 | h1
        · exact ⟨m + 1, h1, rfl⟩
        · have hmn : m = n := by omega
          subst hmn
          refine ⟨m + 1 - (j - i), by omega, ?_⟩
          have := hper (m + 1 - (j - i)) (by omega)
          rw [show m + 1 - (j - i) + (j - i) = m + 1 by omega] at this
          exact this
    obtain ⟨m, hm, hk⟩ := this k
    rw [hk]; exact hpos m hm

/-- The weight of the edge by which a point was updated. -/
def wt (E : List Ed) (s : Sr) (x : Nat) : Int := match E[s.by_ x]? with | some e => e.w | none => 0

/-- Around a cycle of updated points the weights sum to less than 0. -/
theorem cycle_negative {E : List Ed} {s : Sr} {now : Nat} (h : Inv E s now) {c p : Nat} (hp : 0 < p)
    (hc : iter s.fr p c = c) (hT : ∀ k, 0 < s.T (iter s.fr k c)) : sum p (fun k => wt E s (iter s.fr k c)) < 0 := by
  have hstep : ∀ k, s.d (iter s.fr (k+1) c) + wt E s (iter s.fr k c) ≤ s.d (iter s.fr k c) ∧
      s.T (iter s.fr (k+1) c) ≠ s.T (iter s.fr k c) ∧
      (s.T (iter s.fr k c) < s.T (iter s.fr (k+1) c) → s.d (iter s.fr (k+1) c) + wt E s (iter s.fr k c) < s.d (iter s.fr k c)) := fun k => by
    obtain ⟨e, he, hb, hf, hd, hn, hs, _⟩ := (h.pt _).has (hT k)
    have hw : wt E s (iter s.fr k c) = e.w := by simp only [wt, he]
    have hi : iter s.fr (k+1) c = e.a := hf
    rw [hw, hi]
    exact ⟨hd, hn, hs⟩
  have hsum : ∀ m, s.d (iter s.fr m c) + sum m (fun k => wt E s (iter s.fr k c)) ≤ s.d c ∧
      ((∃ k, k < m ∧ s.T (iter s.fr k c) < s.T (iter s.fr (k+1) c)) → s.d (iter s.fr m c) + sum m (fun k => wt E s (iter s.fr k c)) < s.d c) := by
    intro m
    induction m with
    | zero => exact ⟨by simp [sum, iter], fun ⟨k, hk, _⟩ => by omega⟩
    | succ m ih =>
      obtain ⟨h1, h2⟩ := hstep m
      obtain ⟨h3, h4⟩ := ih
      refine ⟨by simp only [sum]; omega, fun ⟨k, hk, hlt⟩ => ?_⟩
      simp only [sum]
      rcases Nat.lt_or_ge k m with h5 | h5
      · have := h4 ⟨k, h5, hlt⟩; omega
      · have : k = m := by omega
        subst this
        have := h2.2 hlt; omega
  have hex : ∃ k, k < p ∧ s.T (iter s.fr k c) < s.T (iter s.fr (k+1) c) := by
    apply Classical.byContradiction
    intro hno
    have hdec : ∀ m, m ≤ p → s.T (iter s.fr m c) + m ≤ s.T c := by
      intro m
      induction m with
      | zero => intro _; simp [iter]
      | succ m ih =>
        intro hm
        have h1 := ih (by omega)
        have h2 := (hstep m).2.1
        have h3 : ¬ s.T (iter s.fr m c) < s.T (iter s.fr (m+1) c) := fun h => hno ⟨m, by omega, h⟩
        omega
    have := hdec p (Nat.le_refl p)
    rw [hc] at this; omega
  have := (hsum p).2 hex
  rw [hc] at this; omega

/-! ## The cycle as a closed walk -/

def edgeAt (E : List Ed) (k : Nat) : Ed := (E[k]?).getD ⟨0, 0, 0⟩

/-- The edges by which the points of the chain were updated, in the order of the walk. -/
def walked (E : List Ed) (s : Sr) (c : Nat) : Nat → List Ed
  | 0 => []
  | p + 1 => edgeAt E (s.by_ (iter s.fr p c)) :: walked E s c p

theorem walked_closed {E : List Ed} {s : Sr} {now : Nat} (h : Inv E s now) {c : Nat} (hT : ∀ k, 0 < s.T (iter s.fr k c)) (p : Nat) :
    follows (iter s.fr p c) (walked E s c p) ∧ endOf (iter s.fr p c) (walked E s c p) = c ∧
      weight (walked E s c p) = sum p (fun k => wt E s (iter s.fr k c)) ∧ ∀ e ∈ walked E s c p, e ∈ E := by
  induction p with
  | zero => exact ⟨trivial, rfl, rfl, fun e he => by cases he⟩
  | succ p ih =>
    obtain ⟨h1, h2, h3, h4⟩ := ih
    obtain ⟨e, he, hb, hf, _⟩ := (h.pt _).has (hT p)
    have hed : edgeAt E (s.by_ (iter s.fr p c)) = e := by simp only [edgeAt, he, Option.getD_some]
    have hw : wt E s (iter s.fr p c) = e.w := by simp only [wt, he]
    simp only [walked, hed, follows, weight, sum, hw]
    refine ⟨⟨hf.symm, by rw [hb]; exact h1⟩, ?_, by omega, fun g hg => ?_⟩
    · show endOf e.b (walked E s c p) = c
      rw [hb]; exact h2
    · rcases List.mem_cons.1 hg with rfl | hg
      · exact List.mem_of_getElem? he
      · exact h4 g hg

theorem walked_eq (E : List Ed) (s : Sr) (c p : Nat) :
    walked E s c p = (((List.range p).map (fun k => s.by_ (iter s.fr k c))).reverse).map (edgeAt E) := by
  induction p with
  | zero => rfl
  | succ p ih => simp only [walked, ih, List.range_succ, List.map_append, List.reverse_append, List.map_cons, List.map_nil, List.reverse_cons, List.reverse_nil, List.nil_append, List.cons_append]

/-- The walk back from the point that n steps lead to, until that point comes again, is a negative cycle. -/
theorem cycle_good {E : List Ed} {s : Sr} {now n : Nat} (h : Inv E s now) (hE : In n E) {x : Nat} (hx : n * E.length < s.T x) {p : Nat}
    (hp : 0 < p) (hc : iter s.fr p (iter s.fr n x) = iter s.fr n x) :
    follows (iter s.fr n x) (walked E s (iter s.fr n x) p) ∧ endOf (iter s.fr n x) (walked E s (iter s.fr n x) p) = iter s.fr n x ∧
      weight (walked E s (iter s.fr n x) p) < 0 ∧ ∀ e ∈ walked E s (iter s.fr n x) p, e ∈ E := by
  have hT := (on_cycle h hE hx).2
  obtain ⟨h1, h2, h3, h4⟩ := walked_closed h hT p
  rw [hc] at h1 h2
  exact ⟨h1, h2, by rw [h3]; exact cycle_negative h hp hc hT, h4⟩

end Go.Kin.St
