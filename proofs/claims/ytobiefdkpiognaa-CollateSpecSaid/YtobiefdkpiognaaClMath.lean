/- Alignments of two lists of codes, and their costs. Plain Lean. -/
set_option linter.unusedSectionVars false
set_option linter.unusedVariables false
set_option linter.unusedSimpArgs false
namespace Go.Kin.Cl

/-- the code of a reading that is lost -/
def lostR : Int := 8589934592
/-- the cost of a pair -/
def bes (x y : Int) : Int := if x ≠ y ∧ x ≠ lostR ∧ y ≠ lostR then 3 else 0
theorem bes_bd (x y : Int) : 0 ≤ bes x y ∧ bes x y ≤ 3 := by unfold bes; split <;> omega
theorem bes_self (x : Int) : bes x x = 0 := by unfold bes; rw [if_neg (by simp)]
theorem bes_comm (x y : Int) : bes x y = bes y x := by
  unfold bes
  by_cases h : x ≠ y ∧ x ≠ lostR ∧ y ≠ lostR
  · rw [if_pos h, if_pos ⟨fun e => h.1 e.symm, h.2.2, h.2.1⟩]
  · rw [if_neg h, if_neg (fun g => h ⟨fun e => g.1 e.symm, g.2.2, g.2.1⟩)]
theorem bes_tri {x y z : Int} (hy : y ≠ lostR) : bes x z ≤ bes x y + bes y z := by
  have h1 := bes_bd x y
  have h2 := bes_bd y z
  by_cases hxy : x = y
  · subst hxy; omega
  · by_cases hx : x = lostR
    · have : bes x z = 0 := by unfold bes; rw [if_neg (fun h => h.2.1 hx)]
      omega
    · have : bes x y = 3 := by unfold bes; rw [if_pos ⟨hxy, hx, hy⟩]
      have := bes_bd x z
      omega
theorem bes_zero {x y : Int} (hx : x ≠ lostR) (hy : y ≠ lostR) (h : bes x y = 0) : x = y := by
  unfold bes at h
  by_cases hxy : x = y
  · exact hxy
  · rw [if_pos ⟨hxy, hx, hy⟩] at h; omega

/-- what an alignment does next: a pair, a code of the first list alone, one of the second list alone -/
inductive Mv where
  | both
  | left
  | right
deriving DecidableEq
/-- an alignment of two lists, with its cost -/
inductive Al : List Int → List Int → List Mv → Int → Prop where
  | nil : Al [] [] [] 0
  | both {x y a b m c} : Al a b m c → Al (x :: a) (y :: b) (.both :: m) (bes x y + c)
  | left {x a b m c} : Al a b m c → Al (x :: a) b (.left :: m) (2 + c)
  | right {y a b m c} : Al a b m c → Al a (y :: b) (.right :: m) (2 + c)
/-- the least cost -/
def ac : List Int → List Int → Int
  | [], b => 2 * b.length
  | x :: a, [] => 2 * (x :: a).length
  | x :: a, y :: b => min (min (bes x y + ac a b) (2 + ac a (y :: b))) (2 + ac (x :: a) b)
termination_by a b => a.length + b.length
theorem ac_nil_left (b : List Int) : ac [] b = 2 * b.length := by unfold ac; rfl
theorem ac_nil_right (a : List Int) : ac a [] = 2 * a.length := by
  cases a with
  | nil => rw [ac_nil_left]
  | cons x a => unfold ac; rfl
theorem ac_cons (x y : Int) (a b : List Int) : ac (x :: a) (y :: b) = min (min (bes x y + ac a b) (2 + ac a (y :: b))) (2 + ac (x :: a) b) := by
  rw [ac]
theorem ac_nonneg : ∀ (n : Nat) (a b : List Int), a.length + b.length ≤ n → 0 ≤ ac a b ∧ ac a b ≤ 2 * (a.length + b.length)
  | 0, a, b, h => by
    obtain rfl : a = [] := List.eq_nil_of_length_eq_zero (by omega)
    rw [ac_nil_left]; simp only [List.length_nil]; constructor <;> omega
  | n + 1, [], b, h => by rw [ac_nil_left]; simp only [List.length_nil]; omega
  | n + 1, x :: a, [], h => by rw [ac_nil_right]; simp only [List.length_nil]; omega
  | n + 1, x :: a, y :: b, h => by
    simp only [List.length_cons] at h ⊢
    rw [ac_cons]
    have h1 := ac_nonneg n a b (by omega)
    have h2 := ac_nonneg n a (y :: b) (by simp only [List.length_cons]; omega)
    have h3 := ac_nonneg n (x :: a) b (by simp only [List.length_cons]; omega)
    have h4 := bes_bd x y
    simp only [List.length_cons] at h2 h3
    omega
theorem ac_bd (a b : List Int) : 0 ≤ ac a b ∧ ac a b ≤ 2 * (a.length + b.length) := ac_nonneg _ a b (Nat.le_refl _)
/-- no alignment costs less -/
theorem Al.le {a b : List Int} {m : List Mv} {c : Int} (h : Al a b m c) : ac a b ≤ c := by
  induction h with
  | nil => rw [ac_nil_left]; simp
  | @both x y a b m c h ih => rw [ac_cons]; omega
  | @left x a b m c h ih =>
    cases b with
    | nil => rw [ac_nil_right] at ih ⊢; simp only [List.length_cons] at ih ⊢; omega
    | cons y b => rw [ac_cons]; omega
  | @right y a b m c h ih =>
    cases a with
    | nil => rw [ac_nil_left] at ih ⊢; simp only [List.length_cons] at ih ⊢; omega
    | cons x a => rw [ac_cons]; omega
/-- the alignment that comes first of those that cost least -/
def best : List Int → List Int → List Mv
  | [], b => b.map fun _ => .right
  | x :: a, [] => (x :: a).map fun _ => .left
  | x :: a, y :: b => if ac (x :: a) (y :: b) = bes x y + ac a b then .both :: best a b else if ac (x :: a) (y :: b) = 2 + ac a (y :: b) then .left :: best a (y :: b) else .right :: best (x :: a) b
termination_by a b => a.length + b.length
theorem best_nil_left (b : List Int) : best [] b = b.map fun _ => .right := by unfold best; rfl
theorem best_nil_right (a : List Int) : best a [] = a.map fun _ => .left := by
  cases a with
  | nil => rw [best_nil_left]; rfl
  | cons x a => unfold best; rfl
theorem best_cons (x y : Int) (a b : List Int) : best (x :: a) (y :: b) = if ac (x :: a) (y :: b) = bes x y + ac a b then .both :: best a b else if ac (x :: a) (y :: b) = 2 + ac a (y :: b) then .left :: best a (y :: b) else .right :: best (x :: a) b := by
  rw [best]
theorem al_rights : ∀ b : List Int, Al [] b (b.map fun _ => .right) (2 * b.length)
  | [] => .nil
  | y :: b => by
    have := Al.right (y := y) (al_rights b)
    simp only [List.map_cons, List.length_cons]
    rw [show (2 * ((b.length + 1 : Nat) : Int)) = 2 + 2 * b.length by omega]; exact this
theorem al_lefts : ∀ a : List Int, Al a [] (a.map fun _ => .left) (2 * a.length)
  | [] => .nil
  | x :: a => by
    have := Al.left (x := x) (al_lefts a)
    simp only [List.map_cons, List.length_cons]
    rw [show (2 * ((a.length + 1 : Nat) : Int)) = 2 + 2 * a.length by omega]; exact this
theorem best_alN : ∀ (n : Nat) (a b : List Int), a.length + b.length ≤ n → Al a b (best a b) (ac a b)
  | n, [], b, _ => by rw [best_nil_left, ac_nil_left]; exact al_rights b
  | n, x :: a, [], _ => by rw [best_nil_right, ac_nil_right]; exact al_lefts _
  | 0, x :: a, y :: b, h => by simp at h
  | n + 1, x :: a, y :: b, h => by
    simp only [List.length_cons] at h
    rw [best_cons]
    by_cases h1 : ac (x :: a) (y :: b) = bes x y + ac a b
    · rw [if_pos h1, h1]; exact .both (best_alN n a b (by omega))
    · rw [if_neg h1]
      by_cases h2 : ac (x :: a) (y :: b) = 2 + ac a (y :: b)
      · rw [if_pos h2, h2]; exact .left (best_alN n a (y :: b) (by simp only [List.length_cons]; omega))
      · rw [if_neg h2]
        have h3 : ac (x :: a) (y :: b) = 2 + ac (x :: a) b := by rw [ac_cons] at h1 h2 ⊢; omega
        rw [h3]; exact .right (best_alN n (x :: a) b (by simp only [List.length_cons]; omega))
theorem best_al (a b : List Int) : Al a b (best a b) (ac a b) := best_alN _ a b (Nat.le_refl _)

/-! ## What comes first -/
def rank : Mv → Nat
  | .both => 0
  | .left => 1
  | .right => 2
/-- at the first place where two alignments differ, the first one has what comes before -/
def firstM : List Mv → List Mv → Bool
  | m :: l, m' :: l' => if m = m' then firstM l l' else decide (rank m < rank m')
  | _, _ => false
theorem firstM_self : ∀ l : List Mv, firstM l l = false
  | [] => rfl
  | m :: l => by unfold firstM; rw [if_pos rfl]; exact firstM_self l
theorem al_nil_left {b : List Int} {m : List Mv} {c : Int} (h : Al [] b m c) : m = b.map fun _ => .right := by
  generalize ha : ([] : List Int) = a at h
  induction h with
  | nil => rfl
  | both h ih => cases ha
  | left h ih => cases ha
  | right h ih => rw [ih ha]; rfl
theorem al_nil_right {a : List Int} {m : List Mv} {c : Int} (h : Al a [] m c) : m = a.map fun _ => .left := by
  generalize hb : ([] : List Int) = b at h
  induction h with
  | nil => rfl
  | both h ih => cases hb
  | left h ih => rw [ih hb]; rfl
  | right h ih => cases hb
theorem least_firstN : ∀ (n : Nat) (a b : List Int) (m : List Mv) (c : Int), a.length + b.length ≤ n → Al a b m c → c = ac a b → firstM m (best a b) = false
  | n, [], b, m, c, _, h, _ => by rw [al_nil_left h, best_nil_left]; exact firstM_self _
  | n, x :: a, [], m, c, _, h, _ => by rw [al_nil_right h, best_nil_right]; exact firstM_self _
  | 0, x :: a, y :: b, m, c, hn, _, _ => by simp at hn
  | n + 1, x :: a, y :: b, m, c, hn, h, hc => by
    simp only [List.length_cons] at hn
    rw [best_cons]
    cases h with
    | @both _ _ _ _ m c h =>
      have hle := h.le
      have hle2 : ac (x :: a) (y :: b) ≤ bes x y + ac a b := by rw [ac_cons]; omega
      rw [if_pos (by omega)]
      unfold firstM
      rw [if_pos rfl]
      exact least_firstN n a b m c (by omega) h (by omega)
    | @left _ _ _ m c h =>
      have hle := h.le
      have hle2 : ac (x :: a) (y :: b) ≤ 2 + ac a (y :: b) := by rw [ac_cons]; omega
      by_cases h1 : ac (x :: a) (y :: b) = bes x y + ac a b
      · rw [if_pos h1]; rfl
      · rw [if_neg h1, if_pos (by omega)]
        unfold firstM
        rw [if_pos rfl]
        exact least_firstN n a (y :: b) m c (by simp only [List.length_cons]; omega) h (by omega)
    | @right _ _ _ m c h =>
      have hle := h.le
      have hle2 : ac (x :: a) (y :: b) ≤ 2 + ac (x :: a) b := by rw [ac_cons]; omega
      by_cases h1 : ac (x :: a) (y :: b) = bes x y + ac a b
      · rw [if_pos h1]; rfl
      · rw [if_neg h1]
        by_cases h2 : ac (x :: a) (y :: b) = 2 + ac a (y :: b)
        · rw [if_pos h2]; rfl
        · rw [if_neg h2]
          unfold firstM
          rw [if_pos rfl]
          exact least_firstN n (x :: a) b m c (by simp only [List.length_cons]; omega) h (by omega)
theorem least_first {a b : List Int} {m : List Mv} {c : Int} (h : Al a b m c) (hc : c = ac a b) : firstM m (best a b) = false := least_firstN _ a b m c (Nat.le_refl _) h hc

/-! ## A metric -/
def swap : Mv → Mv
  | .both => .both
  | .left => .right
  | .right => .left
theorem Al.symm {a b : List Int} {m : List Mv} {c : Int} (h : Al a b m c) : Al b a (m.map swap) c := by
  induction h with
  | nil => exact .nil
  | @both x y a b m c h ih => rw [bes_comm]; exact .both ih
  | left h ih => exact .right ih
  | right h ih => exact .left ih
theorem ac_symm (a b : List Int) : ac a b = ac b a := by
  have h1 := (best_al a b).symm.le
  have h2 := (best_al b a).symm.le
  omega
theorem Al.trans : ∀ (n : Nat) {a b d : List Int} {m m' : List Mv} {c c' : Int}, m.length + m'.length ≤ n → (∀ y ∈ b, y ≠ lostR) → Al a b m c → Al b d m' c' → ac a d ≤ c + c'
  | n, a, b, d, m, m', c, c', hn, hb, h1, h2 => by
    cases h1 with
    | nil =>
      have := h2.le
      omega
    | @left x a _ m c h1 =>
      have hm : m.length + m'.length < n := by simp only [List.length_cons] at hn; omega
      cases n with
      | zero => omega
      | succ n =>
        have h := Al.trans n (by omega) hb h1 h2
        have hl : ac (x :: a) d ≤ 2 + ac a d := (Al.left (x := x) (best_al a d)).le
        omega
    | @right y _ b m c h1 =>
      cases n with
      | zero => simp at hn
      | succ n =>
        have hb' : ∀ z ∈ b, z ≠ lostR := fun z hz => hb z (List.mem_cons_of_mem _ hz)
        cases h2 with
        | @both _ z _ d m' c' h2 =>
          simp only [List.length_cons] at hn
          have h := Al.trans n (by omega) hb' h1 h2
          have hl : ac a (z :: d) ≤ 2 + ac a d := (Al.right (y := z) (best_al a d)).le
          have := bes_bd y z
          omega
        | @left _ _ _ m' c' h2 =>
          simp only [List.length_cons] at hn
          have h := Al.trans n (by omega) hb' h1 h2
          omega
        | @right z _ d m' c' h2 =>
          simp only [List.length_cons] at hn
          have h := Al.trans n (by simp only [List.length_cons]; omega) hb (Al.right (y := y) h1) h2
          have hl : ac a (z :: d) ≤ 2 + ac a d := (Al.right (y := z) (best_al a d)).le
          omega
    | @both x y a b m c h1 =>
      cases n with
      | zero => simp at hn
      | succ n =>
        have hb' : ∀ z ∈ b, z ≠ lostR := fun z hz => hb z (List.mem_cons_of_mem _ hz)
        have hy : y ≠ lostR := hb y List.mem_cons_self
        cases h2 with
        | @both _ z _ d m' c' h2 =>
          simp only [List.length_cons] at hn
          have h := Al.trans n (by omega) hb' h1 h2
          have hl : ac (x :: a) (z :: d) ≤ bes x z + ac a d := (Al.both (x := x) (y := z) (best_al a d)).le
          have := bes_tri (x := x) (z := z) hy
          omega
        | @left _ _ _ m' c' h2 =>
          simp only [List.length_cons] at hn
          have h := Al.trans n (by omega) hb' h1 h2
          have hl : ac (x :: a) d ≤ 2 + ac a d := (Al.left (x := x) (best_al a d)).le
          have := bes_bd x y
          omega
        | @right z _ d m' c' h2 =>
          simp only [List.length_cons] at hn
          have h := Al.trans n (by simp only [List.length_cons]; omega) hb (Al.both (x := x) h1) h2
          have hl : ac (x :: a) (z :: d) ≤ 2 + ac (x :: a) d := (Al.right (y := z) (best_al (x :: a) d)).le
          omega
theorem ac_tri {a b d : List Int} (hb : ∀ y ∈ b, y ≠ lostR) : ac a d ≤ ac a b + ac b d := Al.trans _ (Nat.le_refl _) hb (best_al a b) (best_al b d)
theorem al_zero {a b : List Int} {m : List Mv} {c : Int} (h : Al a b m c) : 0 ≤ c ∧ (c = 0 → (∀ x ∈ a, x ≠ lostR) → (∀ y ∈ b, y ≠ lostR) → a = b) := by
  induction h with
  | nil => exact ⟨Int.le_refl _, fun _ _ _ => rfl⟩
  | @both x y a b m c h ih =>
    have := bes_bd x y
    refine ⟨by omega, fun hc ha hb => ?_⟩
    rw [bes_zero (ha x List.mem_cons_self) (hb y List.mem_cons_self) (by omega), ih.2 (by omega) (fun z hz => ha z (List.mem_cons_of_mem _ hz)) (fun z hz => hb z (List.mem_cons_of_mem _ hz))]
  | left h ih => exact ⟨by omega, fun hc => by omega⟩
  | right h ih => exact ⟨by omega, fun hc => by omega⟩
theorem ac_self : ∀ a : List Int, ac a a = 0
  | [] => by rw [ac_nil_left]; rfl
  | x :: a => by
    have h := ac_self a
    have h1 : ac (x :: a) (x :: a) ≤ bes x x + ac a a := (Al.both (best_al a a)).le
    have h2 := (ac_bd (x :: a) (x :: a)).1
    rw [bes_self] at h1
    omega
theorem ac_zero {a b : List Int} (ha : ∀ x ∈ a, x ≠ lostR) (hb : ∀ y ∈ b, y ≠ lostR) : ac a b = 0 ↔ a = b :=
  ⟨fun h => (al_zero (best_al a b)).2 h ha hb, fun h => by rw [h, ac_self]⟩

/-! ## Common beginnings and ends -/
theorem ac_begin1 {x : Int} {a b : List Int} (ha : ∀ z ∈ x :: a, z ≠ lostR) (hb : ∀ z ∈ x :: b, z ≠ lostR) : ac (x :: a) (x :: b) = ac a b := by
  have h1 : ac (x :: a) (x :: b) ≤ bes x x + ac a b := (Al.both (best_al a b)).le
  rw [bes_self] at h1
  have h2 : ac a b ≤ ac a (x :: b) + ac (x :: b) b := ac_tri hb
  have h3 : ac (x :: b) b ≤ 2 + ac b b := (Al.left (best_al b b)).le
  have h4 : ac a b ≤ ac a (x :: a) + ac (x :: a) b := ac_tri ha
  have h5 : ac a (x :: a) ≤ 2 + ac a a := (Al.right (best_al a a)).le
  rw [ac_self] at h3 h5
  rw [ac_cons, bes_self] at h1 ⊢
  omega
theorem ac_begin : ∀ {p a b : List Int}, (∀ z ∈ p, z ≠ lostR) → (∀ z ∈ a, z ≠ lostR) → (∀ z ∈ b, z ≠ lostR) → ac (p ++ a) (p ++ b) = ac a b
  | [], a, b, _, _, _ => rfl
  | x :: p, a, b, hp, ha, hb => by
    have hp' : ∀ z ∈ p, z ≠ lostR := fun z hz => hp z (List.mem_cons_of_mem _ hz)
    rw [List.cons_append, List.cons_append, ac_begin1, ac_begin hp' ha hb]
    · intro z hz
      rcases List.mem_cons.1 hz with rfl | hz
      · exact hp _ List.mem_cons_self
      · rcases List.mem_append.1 hz with h | h
        · exact hp' z h
        · exact ha z h
    · intro z hz
      rcases List.mem_cons.1 hz with rfl | hz
      · exact hp _ List.mem_cons_self
      · rcases List.mem_append.1 hz with h | h
        · exact hp' z h
        · exact hb z h
theorem Al.snoc {a b : List Int} {m : List Mv} {c : Int} (h : Al a b m c) (x y : Int) : Al (a ++ [x]) (b ++ [y]) (m ++ [.both]) (bes x y + c) ∧ Al (a ++ [x]) b (m ++ [.left]) (2 + c) ∧ Al a (b ++ [y]) (m ++ [.right]) (2 + c) := by
  induction h with
  | nil => exact ⟨.both .nil, .left .nil, .right .nil⟩
  | @both x' y' a b m c h ih =>
    refine ⟨?_, ?_, ?_⟩
    · rw [show bes x y + (bes x' y' + c) = bes x' y' + (bes x y + c) by omega]; exact .both ih.1
    · rw [show 2 + (bes x' y' + c) = bes x' y' + (2 + c) by omega]; exact .both ih.2.1
    · rw [show 2 + (bes x' y' + c) = bes x' y' + (2 + c) by omega]; exact .both ih.2.2
  | @left x' a b m c h ih =>
    refine ⟨?_, .left ih.2.1, .left ih.2.2⟩
    rw [show bes x y + (2 + c) = 2 + (bes x y + c) by omega]; exact .left ih.1
  | @right y' a b m c h ih =>
    refine ⟨?_, .right ih.2.1, .right ih.2.2⟩
    rw [show bes x y + (2 + c) = 2 + (bes x y + c) by omega]; exact .right ih.1
theorem Al.rev {a b : List Int} {m : List Mv} {c : Int} (h : Al a b m c) : ∃ m', Al a.reverse b.reverse m' c := by
  induction h with
  | nil => exact ⟨[], .nil⟩
  | @both x y a b m c h ih =>
    obtain ⟨m', h'⟩ := ih
    rw [List.reverse_cons, List.reverse_cons]
    exact ⟨_, (h'.snoc x y).1⟩
  | @left x a b m c h ih =>
    obtain ⟨m', h'⟩ := ih
    rw [List.reverse_cons]
    exact ⟨_, (h'.snoc x x).2.1⟩
  | @right y a b m c h ih =>
    obtain ⟨m', h'⟩ := ih
    rw [List.reverse_cons]
    exact ⟨_, (h'.snoc y y).2.2⟩
theorem ac_rev (a b : List Int) : ac a.reverse b.reverse = ac a b := by
  obtain ⟨m1, h1⟩ := (best_al a b).rev
  obtain ⟨m2, h2⟩ := (best_al a.reverse b.reverse).rev
  rw [List.reverse_reverse, List.reverse_reverse] at h2
  have := h1.le
  have := h2.le
  omega
theorem ac_end {e a b : List Int} (he : ∀ z ∈ e, z ≠ lostR) (ha : ∀ z ∈ a, z ≠ lostR) (hb : ∀ z ∈ b, z ≠ lostR) : ac (a ++ e) (b ++ e) = ac a b := by
  rw [← ac_rev, List.reverse_append, List.reverse_append, ac_begin, ac_rev]
  · intro z hz; exact he z (List.mem_reverse.1 hz)
  · intro z hz; exact ha z (List.mem_reverse.1 hz)
  · intro z hz; exact hb z (List.mem_reverse.1 hz)
/-- both at once -/
theorem ac_around {p e a b : List Int} (hp : ∀ z ∈ p, z ≠ lostR) (he : ∀ z ∈ e, z ≠ lostR) (ha : ∀ z ∈ a, z ≠ lostR) (hb : ∀ z ∈ b, z ≠ lostR) : ac (p ++ a ++ e) (p ++ b ++ e) = ac a b := by
  rw [ac_end he, ac_begin hp ha hb]
  · intro z hz; rcases List.mem_append.1 hz with h | h
    · exact hp z h
    · exact ha z h
  · intro z hz; rcases List.mem_append.1 hz with h | h
    · exact hp z h
    · exact hb z h
end Go.Kin.Cl
