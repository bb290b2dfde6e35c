/- Clocks: what the chapter defines. Plain Lean. -/
set_option linter.unusedSectionVars false
set_option linter.unusedVariables false
set_option linter.unusedSimpArgs false
namespace Go.Kin.Tm

structure Tp where
  bar : Int
  ticks : Int
  step : Int
structure Ps where
  bar : Int
  kind : Int
  lo : Int
  hi : Int
structure Sp where
  f : Int
  t : Int
  lo : Int
  hi : Int
instance : Inhabited Tp := ⟨⟨0, 0, 0⟩⟩
instance : Inhabited Ps := ⟨⟨0, 0, 0, 0⟩⟩
instance : Inhabited Sp := ⟨⟨0, 0, 0, 0⟩⟩

def inB (n lo hi : Int) : Bool := decide (lo ≤ n ∧ n ≤ hi)
theorem inB_iff {n lo hi : Int} : inB n lo hi = true ↔ lo ≤ n ∧ n ≤ hi := by simp [inB]
theorem inB_no {n lo hi : Int} : inB n lo hi = false ↔ n < lo ∨ hi < n := by
  rw [Bool.eq_false_iff, ne_eq, inB_iff]; omega

/-! ## Tempos -/
/-- the tempo of a bar, by its place -/
def tkAt (ts : List Tp) (i : Nat) (k : Int) : Int := (ts.getD i default).ticks + (k - (ts.getD i default).bar) * (ts.getD i default).step
/-- how many tempos begin at a bar or ahead of it -/
def upTo : List Tp → Int → Nat
  | [], _ => 0
  | t :: l, k => if t.bar ≤ k then upTo l k + 1 else 0
theorem upTo_le : ∀ (ts : List Tp) (k : Int), upTo ts k ≤ ts.length
  | [], _ => Nat.le_refl _
  | t :: l, k => by
    have := upTo_le l k
    unfold upTo; split <;> simp <;> omega
theorem upTo_lt : ∀ {ts : List Tp} {k : Int} {i : Nat} {t : Tp}, i < upTo ts k → ts[i]? = some t → t.bar ≤ k
  | [], _, _, _, h, _ => by simp [upTo] at h
  | u :: l, k, i, t, h, ht => by
    unfold upTo at h
    split at h
    · rename_i hu
      cases i with
      | zero => simp at ht; subst ht; exact hu
      | succ i => exact upTo_lt (ts := l) (k := k) (i := i) (by omega) (by simpa using ht)
    · omega
theorem upTo_at : ∀ {ts : List Tp} {k : Int} {t : Tp}, ts[upTo ts k]? = some t → k < t.bar
  | [], _, _, h => by simp [upTo] at h
  | u :: l, k, t, h => by
    unfold upTo at h
    split at h
    · exact upTo_at (ts := l) (by simpa using h)
    · rename_i hu
      simp at h; subst h; omega
theorem upTo_uniq {ts : List Tp} {k : Int} {r : Nat} (hr : r ≤ ts.length) (h1 : ∀ i t, i < r → ts[i]? = some t → t.bar ≤ k) (h2 : ∀ t, ts[r]? = some t → k < t.bar) : upTo ts k = r := by
  rcases Nat.lt_trichotomy (upTo ts k) r with h | h | h
  · exfalso
    obtain ⟨t, ht⟩ : ∃ t, ts[upTo ts k]? = some t := ⟨_, List.getElem?_eq_getElem (by omega)⟩
    have a := upTo_at ht
    have b := h1 _ t h ht
    omega
  · exact h
  · exfalso
    have hl := upTo_le ts k
    obtain ⟨t, ht⟩ : ∃ t, ts[r]? = some t := ⟨_, List.getElem?_eq_getElem (by omega)⟩
    have a := upTo_lt h ht
    have b := h2 t ht
    omega
/-- the ticks of a bar -/
def tk (ts : List Tp) (k : Int) : Int := tkAt ts (upTo ts k - 1) k
/-- the bars of the tempos are in order, from the one behind a number on, ahead of another -/
def asc (last n : Int) : List Tp → Bool
  | [] => true
  | t :: l => inB t.bar (last + 1) (n - 1) && inB t.ticks (-65536) 65536 && inB t.step (-65536) 65536 && asc t.bar n l
theorem asc_get : ∀ {ts : List Tp} {last n : Int} {i : Nat} {t : Tp}, asc last n ts = true → ts[i]? = some t → last < t.bar ∧ t.bar < n ∧ (-65536 ≤ t.ticks ∧ t.ticks ≤ 65536) ∧ (-65536 ≤ t.step ∧ t.step ≤ 65536)
  | [], _, _, _, _, _, h => by simp at h
  | u :: l, last, n, i, t, ha, h => by
    simp only [asc, Bool.and_eq_true, inB_iff] at ha
    obtain ⟨⟨⟨a1, a2⟩, a3⟩, a4⟩ := ha
    cases i with
    | zero => simp at h; subst h; exact ⟨by omega, by omega, a2, a3⟩
    | succ i =>
      have := asc_get (ts := l) (i := i) a4 (by simpa using h)
      exact ⟨by omega, this.2⟩
theorem asc_lt : ∀ {ts : List Tp} {last n : Int} {i j : Nat} {t u : Tp}, asc last n ts = true → i < j → ts[i]? = some t → ts[j]? = some u → t.bar < u.bar
  | [], _, _, _, _, _, _, _, _, h, _ => by simp at h
  | v :: l, last, n, i, j, t, u, ha, hij, h1, h2 => by
    simp only [asc, Bool.and_eq_true] at ha
    obtain ⟨_, a4⟩ := ha
    cases j with
    | zero => omega
    | succ j =>
      cases i with
      | zero => simp at h1; subst h1; exact (asc_get (i := j) a4 (by simpa using h2)).1
      | succ i => exact asc_lt (ts := l) (i := i) (j := j) a4 (by omega) (by simpa using h1) (by simpa using h2)
/-- the place of a bar's tempo -/
theorem upTo_of {ts : List Tp} {last n k : Int} {i : Nat} {t : Tp} (ha : asc last n ts = true) (ht : ts[i]? = some t) (h1 : t.bar ≤ k) (h2 : ∀ u, ts[i + 1]? = some u → k < u.bar) : upTo ts k = i + 1 := by
  have hl : i < ts.length := (List.getElem?_eq_some_iff.1 ht).1
  refine upTo_uniq (by omega) (fun j u hj hu => ?_) h2
  by_cases hji : j = i
  · subst hji; rw [ht] at hu; cases hu; exact h1
  · have := asc_lt ha (by omega : j < i) hu ht
    omega
/-- what lies between the ends of a line -/
theorem line {a s x e lo hi : Int} (hx : 0 ≤ x) (hxe : x ≤ e) (h1 : lo ≤ a ∧ a ≤ hi) (h2 : lo ≤ a + e * s ∧ a + e * s ≤ hi) : lo ≤ a + x * s ∧ a + x * s ≤ hi := by
  rcases Int.lt_or_le s 0 with h | h
  · have e1 := Int.mul_le_mul_of_nonpos_right hxe (by omega : s ≤ 0)
    have e2 := Int.mul_le_mul_of_nonpos_right hx (by omega : s ≤ 0)
    rw [Int.zero_mul] at e2
    omega
  · have e1 := Int.mul_le_mul_of_nonneg_right hxe h
    have e2 := Int.mul_le_mul_of_nonneg_right hx h
    rw [Int.zero_mul] at e2
    omega
/-- the bar of a tempo's end -/
def lastOf (ts : List Tp) (n : Int) (i : Nat) : Int := if i + 1 < ts.length then (ts.getD (i + 1) default).bar - 1 else n - 1
/-- each bar, and each tempo's ends -/
def okBars (ts : List Tp) (n : Int) : Bool := (List.range n.toNat).all fun k => inB (tk ts k) 1 65536
def okEnds (ts : List Tp) (n : Int) : Bool := (List.range ts.length).all fun i => inB (tk ts (ts.getD i default).bar) 1 65536 && inB (tk ts (lastOf ts n i)) 1 65536
theorem okBars_iff {ts : List Tp} {n : Int} : okBars ts n = true ↔ ∀ k : Int, 0 ≤ k → k < n → 1 ≤ tk ts k ∧ tk ts k ≤ 65536 := by
  simp only [okBars, List.all_eq_true, List.mem_range, inB_iff]
  constructor
  · intro h k h0 h1
    have := h k.toNat (by omega)
    rwa [Int.toNat_of_nonneg h0] at this
  · intro h k hk
    exact h k (by omega) (by omega)
theorem getD_of {α : Type} [Inhabited α] {l : List α} {i : Nat} {x : α} (h : l[i]? = some x) : l.getD i default = x := by rw [List.getD_eq_getElem?_getD, h]; rfl
theorem tk_of {ts : List Tp} {last n k : Int} {i : Nat} {t : Tp} (ha : asc last n ts = true) (ht : ts[i]? = some t) (h1 : t.bar ≤ k) (h2 : ∀ u, ts[i + 1]? = some u → k < u.bar) : tk ts k = t.ticks + (k - t.bar) * t.step := by
  unfold tk tkAt
  rw [upTo_of ha ht h1 h2, Nat.add_sub_cancel, getD_of ht]
theorem lastOf_lt {ts : List Tp} {last n : Int} {i : Nat} {t : Tp} (ha : asc last n ts = true) (ht : ts[i]? = some t) : t.bar ≤ lastOf ts n i ∧ lastOf ts n i < n ∧ ∀ u, ts[i + 1]? = some u → lastOf ts n i < u.bar := by
  have h0 := asc_get ha ht
  unfold lastOf
  split
  · rename_i h
    obtain ⟨u, hu⟩ : ∃ u, ts[i + 1]? = some u := ⟨_, List.getElem?_eq_getElem h⟩
    have h1 := asc_lt ha (by omega : i < i + 1) ht hu
    have h2 := asc_get ha hu
    rw [getD_of hu]
    refine ⟨by omega, by omega, fun v hv => ?_⟩
    rw [hu] at hv; cases hv; omega
  · rename_i h
    refine ⟨by omega, by omega, fun v hv => ?_⟩
    have := (List.getElem?_eq_some_iff.1 hv).1
    omega
/-- the place of a bar's tempo, by the bar -/
theorem at_bar {ts : List Tp} {n k : Int} {t0 : Tp} (h0 : ts[0]? = some t0) (hz : t0.bar = 0) (hk : 0 ≤ k) : ∃ i t, upTo ts k = i + 1 ∧ ts[i]? = some t ∧ t.bar ≤ k ∧ ∀ u, ts[i + 1]? = some u → k < u.bar := by
  have h1 : 0 < upTo ts k := by
    rcases Nat.eq_zero_or_pos (upTo ts k) with h | h
    · exfalso
      have := upTo_at (k := k) (ts := ts) (t := t0) (by rw [h]; exact h0)
      omega
    · exact h
  have hl := upTo_le ts k
  obtain ⟨i, hi⟩ : ∃ i, upTo ts k = i + 1 := ⟨upTo ts k - 1, by omega⟩
  obtain ⟨t, ht⟩ : ∃ t, ts[i]? = some t := ⟨_, List.getElem?_eq_getElem (by omega)⟩
  exact ⟨i, t, hi, ht, upTo_lt (by omega) ht, fun u hu => upTo_at (by rw [hi]; exact hu)⟩
theorem ok_ends {ts : List Tp} {n : Int} {t0 : Tp} (ha : asc (-1) n ts = true) (h0 : ts[0]? = some t0) (hz : t0.bar = 0) : okEnds ts n = okBars ts n := by
  rw [Bool.eq_iff_iff, okBars_iff]
  simp only [okEnds, List.all_eq_true, List.mem_range, Bool.and_eq_true, inB_iff]
  constructor
  · intro h k hk hn
    obtain ⟨i, t, hi, ht, h1, h2⟩ := at_bar (n := n) h0 hz hk
    have hl := (List.getElem?_eq_some_iff.1 ht).1
    obtain ⟨a1, a2⟩ := h i hl
    obtain ⟨b1, b2, b3⟩ := lastOf_lt ha ht
    rw [getD_of ht, tk_of ha ht (Int.le_refl _) (fun u hu => asc_lt ha (by omega : i < i + 1) ht hu)] at a1
    rw [tk_of ha ht b1 b3] at a2
    rw [tk_of ha ht h1 h2]
    have hkl : k ≤ lastOf ts n i := by
      unfold lastOf
      split
      · rename_i h
        obtain ⟨u, hu⟩ : ∃ u, ts[i + 1]? = some u := ⟨_, List.getElem?_eq_getElem h⟩
        have := h2 u hu
        rw [getD_of hu]; omega
      · omega
    exact line (by omega) (by omega) (by rw [Int.sub_self, Int.zero_mul] at a1; omega) a2
  · intro h i hi
    obtain ⟨t, ht⟩ : ∃ t, ts[i]? = some t := ⟨_, List.getElem?_eq_getElem hi⟩
    obtain ⟨b1, b2, b3⟩ := lastOf_lt ha ht
    have h1 := asc_get ha ht
    rw [getD_of ht]
    exact ⟨h _ (by omega) (by omega), h _ (by omega) b2⟩
end Go.Kin.Tm

set_option linter.unusedSectionVars false
set_option linter.unusedVariables false
set_option linter.unusedSimpArgs false
namespace Go.Kin.Tm

structure Pt where
  bar : Int
  b : Int
  e : Int
  play : Bool
def hasP (ps : List Ps) (i : Nat) (k : Int) : Bool := match ps[i]? with
  | some p => decide (p.bar = k)
  | none => false
/-- bars and pauses, from a bar on -/
def pf (tk : Int → Int) (ps : List Ps) (len : Nat → Int) : Nat → Int → Int → Nat → List Pt
  | 0, _, _, _ => []
  | f + 1, k, at', i => ⟨k, at', at' + tk k, true⟩ ::
    (if hasP ps i k then ⟨k, at' + tk k, at' + tk k + len i, false⟩ :: pf tk ps len f (k + 1) (at' + tk k + len i) (i + 1) else pf tk ps len f (k + 1) (at' + tk k) i)
/-- the length of the pause behind a bar -/
def pa (len : Nat → Int) : List Ps → Nat → Int → Int
  | [], _, _ => 0
  | p :: l, i, k => if p.bar = k then len i else pa len l (i + 1) k
/-- when a bar begins -/
def Bt (tk pa : Int → Int) : Nat → Int
  | 0 => 0
  | k + 1 => Bt tk pa k + tk k + pa k
def ascP (last n : Int) : List Ps → Bool
  | [] => true
  | p :: l => inB p.bar (last + 1) (n - 2) && inB p.kind 1 2 && inB p.lo 0 p.hi && decide (p.hi ≤ 1048576) && ascP p.bar n l
theorem ascP_get : ∀ {ps : List Ps} {last n : Int} {i : Nat} {p : Ps}, ascP last n ps = true → ps[i]? = some p → last < p.bar ∧ p.bar < n - 1 ∧ (p.kind = 1 ∨ p.kind = 2) ∧ (0 ≤ p.lo ∧ p.lo ≤ p.hi) ∧ p.hi ≤ 1048576
  | [], _, _, _, _, _, h => by simp at h
  | q :: l, last, n, i, p, ha, h => by
    simp only [ascP, Bool.and_eq_true, inB_iff, decide_eq_true_eq] at ha
    obtain ⟨⟨⟨⟨a1, a2⟩, a3⟩, a4⟩, a5⟩ := ha
    cases i with
    | zero => simp at h; subst h; exact ⟨by omega, by omega, by omega, a3, a4⟩
    | succ i =>
      have := ascP_get (ps := l) (i := i) a5 (by simpa using h)
      exact ⟨by omega, this.2⟩
theorem ascP_lt : ∀ {ps : List Ps} {last n : Int} {i j : Nat} {p q : Ps}, ascP last n ps = true → i < j → ps[i]? = some p → ps[j]? = some q → p.bar < q.bar
  | [], _, _, _, _, _, _, _, _, h, _ => by simp at h
  | v :: l, last, n, i, j, p, q, ha, hij, h1, h2 => by
    simp only [ascP, Bool.and_eq_true] at ha
    obtain ⟨_, a5⟩ := ha
    cases j with
    | zero => omega
    | succ j =>
      cases i with
      | zero => simp at h1; subst h1; exact (ascP_get (i := j) a5 (by simpa using h2)).1
      | succ i => exact ascP_lt (ps := l) (i := i) (j := j) a5 (by omega) (by simpa using h1) (by simpa using h2)
/-- so many pauses lie ahead of a bar -/
def At (ps : List Ps) (i : Nat) (k : Int) : Prop := i ≤ ps.length ∧ (∀ j p, j < i → ps[j]? = some p → p.bar < k) ∧ ∀ j p, i ≤ j → ps[j]? = some p → k ≤ p.bar
theorem at_zero {ps : List Ps} {n : Int} (ha : ascP (-1) n ps = true) : At ps 0 0 := ⟨Nat.zero_le _, fun j p h => by omega, fun j p _ h => by have := ascP_get ha h; omega⟩
theorem at_has {ps : List Ps} {n k : Int} {last : Int} {i : Nat} (ha : ascP last n ps = true) (h : At ps i k) (hh : hasP ps i k = true) : At ps (i + 1) (k + 1) := by
  unfold hasP at hh
  split at hh
  · rename_i p hp
    have hk : p.bar = k := of_decide_eq_true hh
    have hl := (List.getElem?_eq_some_iff.1 hp).1
    refine ⟨hl, fun j q hj hq => ?_, fun j q hj hq => ?_⟩
    · by_cases hji : j = i
      · subst hji; rw [hp] at hq; cases hq; omega
      · have := h.2.1 j q (by omega) hq; omega
    · have := ascP_lt ha (by omega : i < j) hp hq; omega
  · cases hh
theorem at_not {ps : List Ps} {n k : Int} {last : Int} {i : Nat} (ha : ascP last n ps = true) (h : At ps i k) (hh : hasP ps i k = false) : At ps i (k + 1) := by
  refine ⟨h.1, fun j q hj hq => by have := h.2.1 j q hj hq; omega, fun j q hj hq => ?_⟩
  have h1 := h.2.2 j q hj hq
  by_cases hji : j = i
  · subst hji
    unfold hasP at hh
    rw [hq] at hh
    have : ¬ q.bar = k := of_decide_eq_false hh
    omega
  · obtain ⟨p, hp⟩ : ∃ p, ps[i]? = some p := ⟨_, List.getElem?_eq_getElem (by have := (List.getElem?_eq_some_iff.1 hq).1; omega)⟩
    have := ascP_lt ha (by omega : i < j) hp hq
    have := h.2.2 i p (Nat.le_refl _) hp
    omega
theorem pa_none {len : Nat → Int} : ∀ {ps : List Ps} {o : Nat} {k : Int}, (∀ (j : Nat) (p : Ps), ps[j]? = some p → p.bar ≠ k) → pa len ps o k = 0
  | [], _, _, _ => rfl
  | p :: l, o, k, h => by
    unfold pa
    rw [if_neg (h 0 p rfl)]
    exact pa_none fun j q hq => h (j + 1) q (by simpa using hq)
theorem pa_some {len : Nat → Int} : ∀ {ps : List Ps} {o i : Nat} {k : Int} {p : Ps}, ps[i]? = some p → p.bar = k → (∀ j q, j < i → ps[j]? = some q → q.bar ≠ k) → pa len ps o k = len (o + i)
  | [], _, _, _, _, h, _, _ => by simp at h
  | q :: l, o, i, k, p, h, hk, hn => by
    unfold pa
    cases i with
    | zero => simp at h; subst h; rw [if_pos hk]; rfl
    | succ i =>
      rw [if_neg (hn 0 q (by omega) rfl), pa_some (i := i) (p := p) (by simpa using h) hk fun j r hj hr => hn (j + 1) r (by omega) (by simpa using hr)]
      congr 1; omega
theorem pa_at {ps : List Ps} {len : Nat → Int} {i : Nat} {k : Int} (h : At ps i k) : pa len ps 0 k = if hasP ps i k then len i else if ∃ p, ps[i]? = some p ∧ p.bar = k then 0 else pa len ps 0 k := by
  cases hh : hasP ps i k with
  | true =>
    unfold hasP at hh
    split at hh
    · rename_i p hp
      rw [pa_some (i := i) hp (of_decide_eq_true hh) fun j q hj hq => by have := h.2.1 j q hj hq; omega, Nat.zero_add]; rfl
    · cases hh
  | false =>
    have : ¬ ∃ p, ps[i]? = some p ∧ p.bar = k := fun ⟨p, hp, hk⟩ => by
      unfold hasP at hh
      rw [hp] at hh
      exact of_decide_eq_false hh hk
    rw [if_neg this]; rfl
theorem pa_has {ps : List Ps} {len : Nat → Int} {i : Nat} {k : Int} (h : At ps i k) (hh : hasP ps i k = true) : pa len ps 0 k = len i := by
  rw [pa_at h, hh]; rfl
theorem pa_not {ps : List Ps} {len : Nat → Int} {n last : Int} {i : Nat} {k : Int} (ha : ascP last n ps = true) (h : At ps i k) (hh : hasP ps i k = false) : pa len ps 0 k = 0 := by
  have h2 := at_not ha h hh
  refine pa_none fun j p hp he => ?_
  by_cases hj : j < i
  · have := h.2.1 j p hj hp; omega
  · have := h2.2.2 j p (by omega) hp; omega

/-! ## Where a bar begins -/
/-- what the search for a bar's beginning does -/
def bg : List Pt → Int → Int → Int
  | [], _, at' => at'
  | x :: l, bar, at' => if bar ≤ x.bar then at' else bg l bar x.e
theorem bg_pf {tk : Int → Int} {ps : List Ps} {len : Nat → Int} {n : Int} (ha : ascP (-1) n ps = true) : ∀ (f k i : Nat) (bar : Nat), At ps i k → k ≤ bar → bar ≤ k + f →
    bg (pf tk ps len f k (Bt tk (pa len ps 0) k) i) bar (Bt tk (pa len ps 0) k) = Bt tk (pa len ps 0) bar
  | 0, k, i, bar, h, h1, h2 => by
    have : bar = k := by omega
    subst this; rfl
  | f + 1, k, i, bar, h, h1, h2 => by
    by_cases hk : bar = k
    · subst hk
      unfold pf bg
      rw [if_pos (Int.le_refl _)]
    · unfold pf bg
      rw [if_neg (by simp only; omega)]
      cases hh : hasP ps i k with
      | true =>
        rw [if_pos rfl]
        unfold bg
        rw [if_neg (by simp only; omega)]
        have hB : Bt tk (pa len ps 0) (k + 1) = Bt tk (pa len ps 0) k + tk k + len i := by rw [← pa_has (len := len) h hh]; rfl
        have := bg_pf (tk := tk) (len := len) ha f (k + 1) (i + 1) bar (by exact_mod_cast at_has ha h hh) (by omega) (by omega)
        rw [hB] at this
        exact_mod_cast this
      | false =>
        rw [if_neg Bool.false_ne_true]
        have hB : Bt tk (pa len ps 0) (k + 1) = Bt tk (pa len ps 0) k + tk k := by
          show Bt tk (pa len ps 0) k + tk k + pa len ps 0 k = _
          rw [pa_not ha h hh]; omega
        have := bg_pf (tk := tk) (len := len) ha f (k + 1) i bar (by exact_mod_cast at_not ha h hh) (by omega) (by omega)
        rw [hB] at this
        exact_mod_cast this
/-! ## What lies at a tick -/
def loc : List Pt → Int → Option (Int × Int × Bool)
  | [], _ => none
  | x :: l, t => if t < x.e then some (x.bar, t - x.b, x.play) else loc l t
/-- what the reference does -/
def loc2 (tk pa : Int → Int) : Nat → Int → Int → Int → Option (Int × Int × Bool)
  | 0, _, _, _ => none
  | f + 1, k, at', t => if t < at' + tk k then some (k, t - at', true) else if t < at' + tk k + pa k then some (k, t - (at' + tk k), false) else loc2 tk pa f (k + 1) (at' + tk k + pa k) t
theorem loc_pf {tk : Int → Int} {ps : List Ps} {len : Nat → Int} {n : Int} (ha : ascP (-1) n ps = true) (t : Int) : ∀ (f : Nat) (k at' : Int) (i : Nat), At ps i k →
    loc (pf tk ps len f k at' i) t = loc2 tk (pa len ps 0) f k at' t
  | 0, k, at', i, h => rfl
  | f + 1, k, at', i, h => by
    unfold pf loc loc2
    simp only
    by_cases h1 : t < at' + tk k
    · rw [if_pos h1, if_pos h1]
    · rw [if_neg h1, if_neg h1]
      cases hh : hasP ps i k with
      | true =>
        rw [if_pos rfl, pa_has h hh]
        unfold loc
        simp only
        by_cases h2 : t < at' + tk k + len i
        · rw [if_pos h2, if_pos h2]
        · rw [if_neg h2, if_neg h2]
          exact loc_pf ha t f (k + 1) _ (i + 1) (at_has ha h hh)
      | false =>
        rw [if_neg Bool.false_ne_true, pa_not ha h hh, if_neg (by omega), Int.add_zero]
        exact loc_pf ha t f (k + 1) _ i (at_not ha h hh)
end Go.Kin.Tm

set_option linter.unusedSectionVars false
set_option linter.unusedVariables false
set_option linter.unusedSimpArgs false
namespace Go.Kin.Tm

section
variable {tk pa : Int → Int}
/-- the answer at a tick of a bar or of the pause behind it -/
def ans (tk pa : Int → Int) (j : Nat) (t : Int) : Int × Int × Bool := if t < Bt tk pa j + tk j then (j, t - Bt tk pa j, true) else (j, t - (Bt tk pa j + tk j), false)
/-- bars have ticks, and no pause is negative -/
def Fine (tk pa : Int → Int) (n : Nat) : Prop := ∀ k : Nat, k < n → 1 ≤ tk k ∧ 0 ≤ pa k
theorem Bt_succ (k : Nat) : Bt tk pa (k + 1) = Bt tk pa k + tk k + pa k := rfl
theorem Bt_mono {n : Nat} (h : Fine tk pa n) : ∀ {k m : Nat}, k ≤ m → m ≤ n → Bt tk pa k ≤ Bt tk pa m := by
  intro k m hkm hm
  induction hkm with
  | refl => exact Int.le_refl _
  | step hkm ih =>
    rename_i m
    have h1 := h m (by omega)
    have h2 := ih (by omega)
    rw [Bt_succ]; omega
theorem Bt_lt {n : Nat} (h : Fine tk pa n) {k m : Nat} (hkm : k < m) (hm : m ≤ n) : Bt tk pa k < Bt tk pa m := by
  have h1 := h k (by omega)
  have h2 := Bt_mono h (show k + 1 ≤ m by omega) hm
  rw [Bt_succ] at h2; omega
theorem Bt_nonneg {n : Nat} (h : Fine tk pa n) {k : Nat} (hk : k ≤ n) : 0 ≤ Bt tk pa k := Bt_mono h (Nat.zero_le k) hk
theorem loc2_in {n : Nat} (h : Fine tk pa n) {t : Int} : ∀ (f k j : Nat), k + f ≤ n → k ≤ j → j < k + f → Bt tk pa j ≤ t → t < Bt tk pa (j + 1) → loc2 tk pa f k (Bt tk pa k) t = some (ans tk pa j t)
  | 0, k, j, _, h1, h2, _, _ => by omega
  | f + 1, k, j, hn, h1, h2, h3, h4 => by
    unfold loc2
    by_cases hk : j = k
    · subst hk
      unfold ans
      rw [Bt_succ] at h4
      by_cases hc : t < Bt tk pa j + tk j
      · rw [if_pos hc, if_pos hc]
      · rw [if_neg hc, if_neg hc, if_pos h4]
    · have hm := Bt_mono h (show k + 1 ≤ j by omega) (by omega)
      have hf := h k (by omega)
      rw [Bt_succ] at hm
      rw [if_neg (by omega), if_neg (by omega)]
      have := loc2_in h (t := t) f (k + 1) j (by omega) (by omega) (by omega) h3 h4
      rw [Bt_succ] at this
      exact_mod_cast this
theorem loc2_out {n : Nat} (h : Fine tk pa n) {t : Int} : ∀ (f k : Nat), k + f ≤ n → Bt tk pa (k + f) ≤ t → loc2 tk pa f k (Bt tk pa k) t = none
  | 0, _, _, _ => rfl
  | f + 1, k, hn, h1 => by
    unfold loc2
    have hm := Bt_mono h (show k + 1 ≤ k + (f + 1) by omega) hn
    have hf := h k (by omega)
    rw [Bt_succ] at hm
    rw [if_neg (by omega), if_neg (by omega)]
    have := loc2_out h (t := t) f (k + 1) (by omega) (by rw [show k + 1 + f = k + (f + 1) by omega]; exact h1)
    rw [Bt_succ] at this
    exact_mod_cast this
theorem find_bar {t : Int} (h0 : 0 ≤ t) : ∀ {n : Nat}, t < Bt tk pa n → ∃ j, j < n ∧ Bt tk pa j ≤ t ∧ t < Bt tk pa (j + 1)
  | 0, h => by have : t < 0 := h; omega
  | n + 1, h => by
    by_cases hc : Bt tk pa n ≤ t
    · exact ⟨n, by omega, hc, h⟩
    · obtain ⟨j, h1, h2⟩ := find_bar h0 (n := n) (by omega)
      exact ⟨j, by omega, h2⟩
theorem bar_uniq {n : Nat} (h : Fine tk pa n) {t : Int} {i j : Nat} (hi : i < n) (hj : j < n) (h1 : Bt tk pa i ≤ t) (h2 : t < Bt tk pa (i + 1)) (h3 : Bt tk pa j ≤ t) (h4 : t < Bt tk pa (j + 1)) : i = j := by
  rcases Nat.lt_trichotomy i j with hh | hh | hh
  · have := Bt_mono h (show i + 1 ≤ j by omega) (by omega); omega
  · exact hh
  · have := Bt_mono h (show j + 1 ≤ i by omega) (by omega); omega
/-- what Locate answers -/
def locA (tk pa : Int → Int) (n : Nat) (t : Int) : Option (Int × Int × Bool) := if 0 ≤ t then loc2 tk pa n 0 0 t else none
theorem locA_in {n : Nat} (h : Fine tk pa n) {t : Int} {j : Nat} (h0 : 0 ≤ t) (hj : j < n) (h1 : Bt tk pa j ≤ t) (h2 : t < Bt tk pa (j + 1)) : locA tk pa n t = some (ans tk pa j t) := by
  unfold locA
  rw [if_pos h0]
  exact_mod_cast loc2_in h n 0 j (by omega) (by omega) (by omega) h1 h2
theorem locA_out {n : Nat} (h : Fine tk pa n) {t : Int} (h1 : t < 0 ∨ Bt tk pa n ≤ t) : locA tk pa n t = none := by
  unfold locA
  by_cases h0 : 0 ≤ t
  · rw [if_pos h0]
    have := loc2_out h (t := t) n 0 (by omega) (by rw [Nat.zero_add]; omega)
    exact_mod_cast this
  · rw [if_neg h0]
theorem locA_some {n : Nat} (h : Fine tk pa n) {t : Int} {r : Int × Int × Bool} (hr : locA tk pa n t = some r) : ∃ j, j < n ∧ 0 ≤ t ∧ Bt tk pa j ≤ t ∧ t < Bt tk pa (j + 1) ∧ r = ans tk pa j t := by
  by_cases h0 : 0 ≤ t
  · by_cases h1 : t < Bt tk pa n
    · obtain ⟨j, a1, a2, a3⟩ := find_bar h0 h1
      rw [locA_in h h0 a1 a2 a3] at hr
      cases hr
      exact ⟨j, a1, h0, a2, a3, rfl⟩
    · rw [locA_out h (.inr (by omega))] at hr; cases hr
  · rw [locA_out h (.inl (by omega))] at hr; cases hr
end
end Go.Kin.Tm

set_option linter.unusedSectionVars false
set_option linter.unusedVariables false
set_option linter.unusedSimpArgs false
namespace Go.Kin.Tm
section
variable {tk pa : Int → Int}
/-- how long what lies at a tick lasts -/
def long (tk pa : Int → Int) (j : Nat) (t : Int) : Int := if t < Bt tk pa j + tk j then tk j else pa j
theorem ans_bar (j : Nat) (t : Int) : (ans tk pa j t).1 = j := by unfold ans; split <;> rfl
theorem ans_in {j : Nat} {t : Int} (h1 : Bt tk pa j ≤ t) (h2 : t < Bt tk pa (j + 1)) : 0 ≤ (ans tk pa j t).2.1 ∧ (ans tk pa j t).2.1 < long tk pa j t := by
  unfold ans long
  rw [Bt_succ] at h2
  split
  · simp only; omega
  · simp only; omega
/-- the last tick -/
theorem last_tick {n : Nat} (h : Fine tk pa n) (hl : ∀ k : Nat, k + 1 = n → pa k = 0) {t : Int} {j : Nat} (hj : j < n) (h1 : Bt tk pa j ≤ t) (h2 : t < Bt tk pa (j + 1)) (he : t + 1 = Bt tk pa n) :
    j + 1 = n ∧ (ans tk pa j t).2.2 = true ∧ (ans tk pa j t).2.1 = long tk pa j t - 1 := by
  have hjn : j + 1 = n := by
    rcases Nat.lt_or_ge (j + 1) n with hh | hh
    · have := Bt_lt h hh (Nat.le_refl n); omega
    · omega
  have h0 := hl j hjn
  have hB := Bt_succ (tk := tk) (pa := pa) j
  rw [h0] at hB
  rw [← hjn] at he
  refine ⟨hjn, ?_, ?_⟩
  · unfold ans; rw [if_pos (by omega)]
  · unfold ans long; rw [if_pos (by omega), if_pos (by omega)]; simp only; omega
/-- the next tick -/
theorem next_tick {n : Nat} (h : Fine tk pa n) {t : Int} {j : Nat} (h0 : 0 ≤ t) (hj : j < n) (h1 : Bt tk pa j ≤ t) (h2 : t < Bt tk pa (j + 1)) (he : t + 1 ≠ Bt tk pa n) :
    locA tk pa n (t + 1) = some (if (ans tk pa j t).2.1 + 1 < long tk pa j t then ((j : Int), (ans tk pa j t).2.1 + 1, (ans tk pa j t).2.2) else if (ans tk pa j t).2.2 = true ∧ 0 < pa j then ((j : Int), 0, false) else ((j : Int) + 1, 0, true)) := by
  have hB := Bt_succ (tk := tk) (pa := pa) j
  have hf := h j hj
  by_cases hc : t + 1 < Bt tk pa (j + 1)
  · rw [locA_in h (by omega) hj (by omega) hc]
    congr 1
    by_cases hp : t < Bt tk pa j + tk j
    · have e1 : ans tk pa j t = ((j : Int), t - Bt tk pa j, true) := by unfold ans; rw [if_pos hp]
      have e2 : long tk pa j t = tk j := by unfold long; rw [if_pos hp]
      rw [e1, e2]
      simp only
      by_cases hq : t + 1 < Bt tk pa j + tk j
      · rw [if_pos (by omega)]
        unfold ans; rw [if_pos hq]
        congr 2; omega
      · rw [if_neg (by omega), if_pos ⟨trivial, by omega⟩]
        unfold ans; rw [if_neg hq]
        congr 2; omega
    · have e1 : ans tk pa j t = ((j : Int), t - (Bt tk pa j + tk j), false) := by unfold ans; rw [if_neg hp]
      have e2 : long tk pa j t = pa j := by unfold long; rw [if_neg hp]
      rw [e1, e2]
      simp only
      rw [if_pos (by omega)]
      unfold ans; rw [if_neg (by omega)]
      congr 2; omega
  · have ht : t + 1 = Bt tk pa (j + 1) := by omega
    have hj2 : j + 1 < n := by
      rcases Nat.lt_or_ge (j + 1) n with hh | hh
      · exact hh
      · exfalso
        have : j + 1 = n := by omega
        rw [this] at ht; exact he ht
    have hf2 := h (j + 1) hj2
    have hB2 := Bt_succ (tk := tk) (pa := pa) (j + 1)
    rw [locA_in h (by omega) hj2 (by omega) (by omega)]
    congr 1
    have e3 : ans tk pa (j + 1) (t + 1) = ((j : Int) + 1, 0, true) := by
      unfold ans; rw [if_pos (by omega), ht, Int.sub_self]; rfl
    rw [e3]
    by_cases hp : t < Bt tk pa j + tk j
    · have e1 : ans tk pa j t = ((j : Int), t - Bt tk pa j, true) := by unfold ans; rw [if_pos hp]
      have e2 : long tk pa j t = tk j := by unfold long; rw [if_pos hp]
      rw [e1, e2]
      simp only
      rw [if_neg (by omega), if_neg (by rintro ⟨_, h⟩; omega)]
    · have e1 : ans tk pa j t = ((j : Int), t - (Bt tk pa j + tk j), false) := by unfold ans; rw [if_neg hp]
      have e2 : long tk pa j t = pa j := by unfold long; rw [if_neg hp]
      rw [e1, e2]
      simp only
      rw [if_neg (by omega), if_neg (by rintro ⟨h, _⟩; cases h)]
/-- a bar's beginning -/
theorem at_begin {n : Nat} (h : Fine tk pa n) {j : Nat} (hj : j < n) : locA tk pa n (Bt tk pa j) = some ((j : Int), 0, true) := by
  have hf := h j hj
  have h0 := Bt_nonneg h (show j ≤ n by omega)
  rw [locA_in h h0 hj (Int.le_refl _) (by rw [Bt_succ]; omega)]
  congr 1
  unfold ans; rw [if_pos (by omega), Int.sub_self]
/-- longer pauses -/
theorem Bt_le {pa' : Int → Int} {n : Nat} (h : ∀ k : Nat, k < n → pa k ≤ pa' k) : ∀ {m : Nat}, m ≤ n → Bt tk pa m ≤ Bt tk pa' m
  | 0, _ => Int.le_refl _
  | m + 1, hm => by
    have := Bt_le (n := n) h (m := m) (by omega)
    have := h m (by omega)
    rw [Bt_succ, Bt_succ]; omega
theorem Bt_more {pa' : Int → Int} {j0 : Nat} {by' : Int} (h : ∀ k : Nat, pa' k = if k = j0 then pa k + by' else pa k) : ∀ m : Nat, Bt tk pa' m = Bt tk pa m + (if j0 < m then by' else 0)
  | 0 => by rw [if_neg (by omega)]; show (0 : Int) = 0 + 0; rfl
  | m + 1 => by
    rw [Bt_succ, Bt_succ, Bt_more h m, h m]
    by_cases h1 : m = j0
    · subst h1
      rw [if_pos rfl, if_neg (by omega), if_pos (by omega)]; omega
    · rw [if_neg h1]
      by_cases h2 : j0 < m
      · rw [if_pos h2, if_pos (by omega)]; omega
      · rw [if_neg h2, if_neg (by omega)]; omega
theorem moved {pa' : Int → Int} {n j0 : Nat} {by' : Int} (hb : 0 ≤ by') (h : Fine tk pa n) (hp : ∀ k : Nat, pa' k = if k = j0 then pa k + by' else pa k) {t : Int} {j : Nat} (h0 : 0 ≤ t) (hj : j < n) (h1 : Bt tk pa j ≤ t) (h2 : t < Bt tk pa (j + 1)) :
    locA tk pa' n (t + (if j0 < j then by' else 0)) = some (ans tk pa j t) := by
  have h' : Fine tk pa' n := fun k hk => by
    have := h k hk
    rw [hp k]
    split <;> omega
  have e1 := Bt_more (tk := tk) hp j
  have e2 := Bt_more (tk := tk) hp (j + 1)
  have hd : (if j0 < j then by' else 0) ≤ (if j0 < j + 1 then by' else 0) := by
    by_cases hc : j0 < j
    · rw [if_pos hc, if_pos (by omega)]; exact Int.le_refl _
    · rw [if_neg hc]; split <;> omega
  have hd0 : 0 ≤ (if j0 < j then by' else (0 : Int)) := by split <;> omega
  rw [locA_in h' (by omega) hj (by omega) (by omega)]
  congr 1
  unfold ans
  rw [e1]
  by_cases hc : t < Bt tk pa j + tk j
  · rw [if_pos hc, if_pos (by omega)]
    congr 2; omega
  · rw [if_neg hc, if_neg (by omega)]
    congr 2; omega
end
end Go.Kin.Tm

set_option linter.unusedSectionVars false
set_option linter.unusedVariables false
set_option linter.unusedSimpArgs false
namespace Go.Kin.Tm

/-- sums of ticks -/
def St (tk : Int → Int) : Nat → Int
  | 0 => 0
  | k + 1 => St tk k + tk k
/-- the pauses ahead of a bar -/
def sp (len : Nat → Int) : List Ps → Nat → Int → Int
  | [], _, _ => 0
  | p :: l, o, k => (if p.bar < k then len o else 0) + sp len l (o + 1) k
theorem sp_none {len : Nat → Int} : ∀ {ps : List Ps} {o : Nat} {k : Int}, (∀ (j : Nat) (p : Ps), ps[j]? = some p → k ≤ p.bar) → sp len ps o k = 0
  | [], _, _, _ => rfl
  | p :: l, o, k, h => by
    have h0 := h 0 p rfl
    unfold sp
    rw [if_neg (by omega), sp_none fun j q hq => h (j + 1) q (by simpa using hq)]; rfl
theorem sp_succ {len : Nat → Int} {n : Int} : ∀ {ps : List Ps} {last : Int} {o : Nat} {k : Int}, ascP last n ps = true → sp len ps o (k + 1) = sp len ps o k + pa len ps o k
  | [], _, _, _, _ => rfl
  | p :: l, last, o, k, ha => by
    have hl : ascP p.bar n l = true := by
      simp only [ascP, Bool.and_eq_true] at ha; exact ha.2
    unfold sp pa
    by_cases h1 : p.bar = k
    · rw [if_pos (by omega), if_neg (by omega), if_pos h1]
      have e1 : sp len l (o + 1) (k + 1) = 0 := sp_none fun j q hq => by have := (ascP_get hl hq).1; omega
      have e2 : sp len l (o + 1) k = 0 := sp_none fun j q hq => by have := (ascP_get hl hq).1; omega
      rw [e1, e2]; omega
    · rw [if_neg h1, sp_succ (len := len) (n := n) (o := o + 1) (k := k) hl]
      by_cases h2 : p.bar < k
      · rw [if_pos (by omega), if_pos h2]; omega
      · rw [if_neg (by omega), if_neg h2]; omega
theorem Bt_sum {tk : Int → Int} {len : Nat → Int} {ps : List Ps} {n : Int} (ha : ascP (-1) n ps = true) : ∀ k : Nat, Bt tk (pa len ps 0) k = St tk k + sp len ps 0 k
  | 0 => by
    have : sp len ps 0 (0 : Nat) = 0 := sp_none fun j p h => by have := (ascP_get ha h).1; omega
    rw [this]; rfl
  | k + 1 => by
    rw [Bt_succ, Bt_sum ha k]
    have := sp_succ (len := len) (o := 0) (k := (k : Int)) ha
    show _ = St tk k + tk k + sp len ps 0 ((k : Int) + 1)
    rw [this]; omega

/-! ## Validity -/
def okSp (n : Int) (s : Sp) : Bool := inB s.f 0 n && inB s.t 0 n && decide (s.f ≠ s.t) && inB s.lo (-1099511627776) s.hi && decide (s.hi ≤ 1099511627776)
def limB (a b c : Nat) : Bool := decide (a ≤ 4096 ∧ b ≤ 4096 ∧ c ≤ 256)
def head0 (ts : List Tp) : Bool := match ts with
  | [] => false
  | t :: _ => decide (t.bar = 0)
def okClk (n : Int) (ts : List Tp) (ps : List Ps) (ss : List Sp) : Bool := inB n 1 4096 && head0 ts && asc (-1) n ts && okBars ts n && ascP (-1) n ps && ss.all (okSp n)
def chk (n : Int) (ts : List Tp) (ps : List Ps) (ss : List Sp) : Int := if limB ts.length ps.length ss.length then (if okClk n ts ps ss then 0 else 130) else 2
theorem chk_or (n : Int) (ts : List Tp) (ps : List Ps) (ss : List Sp) : chk n ts ps ss = 0 ∨ chk n ts ps ss = 130 ∨ chk n ts ps ss = 2 := by unfold chk; split <;> (try split) <;> simp
/-- a valid clock -/
structure Ok (n : Int) (ts : List Tp) (ps : List Ps) (ss : List Sp) : Prop where
  lim : ts.length ≤ 4096 ∧ ps.length ≤ 4096 ∧ ss.length ≤ 256
  n1 : 1 ≤ n
  n2 : n ≤ 4096
  t0 : ∃ t, ts[0]? = some t ∧ t.bar = 0
  asc : asc (-1) n ts = true
  bars : ∀ k : Int, 0 ≤ k → k < n → 1 ≤ tk ts k ∧ tk ts k ≤ 65536
  ascP : ascP (-1) n ps = true
  sps : ∀ s ∈ ss, okSp n s = true
theorem chk_ok {n : Int} {ts : List Tp} {ps : List Ps} {ss : List Sp} : chk n ts ps ss = 0 ↔ Ok n ts ps ss := by
  unfold chk
  constructor
  · intro h
    split at h
    · rename_i h1
      split at h
      · rename_i h2
        have h1 := of_decide_eq_true h1
        simp only [okClk, Bool.and_eq_true, inB_iff, List.all_eq_true] at h2
        obtain ⟨⟨⟨⟨⟨a1, a2⟩, a3⟩, a4⟩, a5⟩, a6⟩ := h2
        refine ⟨h1, a1.1, a1.2, ?_, a3, okBars_iff.1 a4, a5, a6⟩
        cases ts with
        | nil => cases a2
        | cons t l => exact ⟨t, rfl, of_decide_eq_true a2⟩
      · cases h
    · cases h
  · intro h
    have h1 : limB ts.length ps.length ss.length = true := decide_eq_true h.lim
    have h2 : head0 ts = true := by
      obtain ⟨t, a, b⟩ := h.t0
      cases ts with
      | nil => cases a
      | cons u l => cases a; exact decide_eq_true b
    have h3 : okClk n ts ps ss = true := by
      simp only [okClk, Bool.and_eq_true, inB_iff, List.all_eq_true]
      exact ⟨⟨⟨⟨⟨⟨h.n1, h.n2⟩, h2⟩, h.asc⟩, okBars_iff.2 h.bars⟩, h.ascP⟩, h.sps⟩
    rw [if_pos h1, if_pos h3]

/-! ## Lengths -/
def lensB (ps : List Ps) (l : List Int) : Bool := decide (l.length = ps.length) && (List.range ps.length).all fun i => inB (l.getD i 0) (ps.getD i default).lo (ps.getD i default).hi
theorem lensB_iff {ps : List Ps} {l : List Int} : lensB ps l = true ↔ l.length = ps.length ∧ ∀ (i : Nat) (p : Ps) (x : Int), ps[i]? = some p → l[i]? = some x → p.lo ≤ x ∧ x ≤ p.hi := by
  simp only [lensB, Bool.and_eq_true, decide_eq_true_eq, List.all_eq_true, List.mem_range, inB_iff]
  constructor
  · rintro ⟨h1, h2⟩
    refine ⟨h1, fun i p x hp hx => ?_⟩
    have := h2 i (List.getElem?_eq_some_iff.1 hp).1
    rw [getD_of hp, List.getD_eq_getElem?_getD, hx] at this
    exact this
  · rintro ⟨h1, h2⟩
    refine ⟨h1, fun i hi => ?_⟩
    obtain ⟨p, hp⟩ : ∃ p, ps[i]? = some p := ⟨_, List.getElem?_eq_getElem hi⟩
    obtain ⟨x, hx⟩ : ∃ x, l[i]? = some x := ⟨_, List.getElem?_eq_getElem (by omega)⟩
    rw [getD_of hp, List.getD_eq_getElem?_getD, hx]
    exact h2 i p x hp hx
def lenF (l : List Int) (i : Nat) : Int := l.getD i 0
def loF (ps : List Ps) (i : Nat) : Int := (ps.getD i default).lo
def hiF (ps : List Ps) (i : Nat) : Int := (ps.getD i default).hi
/-- the pause of a bar, if its lengths are within bounds -/
theorem pa_bd {len : Nat → Int} {lo hi : Nat → Int} : ∀ {ps : List Ps} {o : Nat} {k : Int}, (∀ i : Nat, i < ps.length → lo (o + i) ≤ len (o + i) ∧ len (o + i) ≤ hi (o + i)) → pa lo ps o k ≤ pa len ps o k ∧ pa len ps o k ≤ pa hi ps o k
  | [], _, _, _ => ⟨Int.le_refl _, Int.le_refl _⟩
  | p :: l, o, k, h => by
    unfold pa
    by_cases hk : p.bar = k
    · rw [if_pos hk, if_pos hk, if_pos hk]
      exact h 0 (by simp)
    · rw [if_neg hk, if_neg hk, if_neg hk]
      refine pa_bd fun i hi' => ?_
      have := h (i + 1) (by simp; omega)
      rwa [show o + (i + 1) = o + 1 + i by omega] at this
theorem pa_ge {len : Nat → Int} : ∀ {ps : List Ps} {o : Nat} {k : Int}, (∀ i : Nat, i < ps.length → 0 ≤ len (o + i)) → 0 ≤ pa len ps o k
  | [], _, _, _ => Int.le_refl _
  | p :: l, o, k, h => by
    unfold pa
    split
    · exact h 0 (by simp)
    · refine pa_ge fun i hi' => ?_
      have := h (i + 1) (by simp; omega)
      rwa [show o + (i + 1) = o + 1 + i by omega] at this
end Go.Kin.Tm
