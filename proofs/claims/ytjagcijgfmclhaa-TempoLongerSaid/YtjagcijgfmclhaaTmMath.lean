/- Clocks: what the chapter defines. Plain Lean. -/
set_option linter.unusedSectionVars false
set_option linter.unusedVariables false
set_option linter.unusedSimpArgs false
namespace Go.Kin.Tm

structure Tp where
  bar : Int
  ticks : Int
  step : Int
structure Ps where
  bar : Int
  kind : Int
  lo : Int
  hi : Int
structure Sp where
  f : Int
  t : Int
  lo : Int
  hi : Int
instance : Inhabited Tp := ⟨⟨0, 0, 0⟩⟩
instance : Inhabited Ps := ⟨⟨0, 0, 0, 0⟩⟩
instance : Inhabited Sp := ⟨⟨0, 0, 0, 0⟩⟩

def inB (n lo hi : Int) : Bool := decide (lo ≤ n ∧ n ≤ hi)
theorem inB_iff {n lo hi : Int} : inB n lo hi = true ↔ lo ≤ n ∧ n ≤ hi := by simp [inB]
theorem inB_no {n lo hi : Int} : inB n lo hi = false ↔ n < lo ∨ hi < n := by
  rw [Bool.eq_false_iff, ne_eq, inB_iff]; omega

/-! ## Tempos -/
/-- the tempo of a bar, by its place -/
def tkAt (ts : List Tp) (i : Nat) (k : Int) : Int := (ts.getD i default).ticks + (k - (ts.getD i default).bar) * (ts.getD i default).step
/-- how many tempos begin at a bar or ahead of it -/
def upTo : List Tp → Int → Nat
  | [], _ => 0
  | t :: l, k => if t.bar ≤ k then upTo l k + 1 else 0
theorem upTo_le : ∀ (ts : List Tp) (k : Int), upTo ts k ≤ ts.length
  | [], _ => Nat.le_refl _
  | t :: l, k => by
    have := upTo_le l k
    unfold upTo; split <;> simp <;> omega
theorem upTo_lt : ∀ {ts : List Tp} {k : Int} {i : Nat} {t : Tp}, i < upTo ts k → ts[i]? = some t → t.bar ≤ k
  | [], _, _, _, h, _ => by simp [upTo] at h
  | u :: l, k, i, t, h, ht => by
    unfold upTo at h
    split at h
    · rename_i hu
      cases i with
      | zero => simp at ht; subst ht; exact hu
      | succ i => exact upTo_lt (ts := l) (k := k) (i := i) (by omega) (by simpa using ht)
    · omega
theorem upTo_at : ∀ {ts : List Tp} {k : Int} {t : Tp}, ts[upTo ts k]? = some t → k < t.bar
  | [], _, _, h => by simp [upTo] at h
  | u :: l, k, t, h => by
    unfold upTo at h
    split at h
    · exact upTo_at (ts := l) (by simpa using h)
    · rename_i hu
      simp at h; subst h; omega
theorem upTo_uniq {ts : List Tp} {k : Int} {r : Nat} (hr : r ≤ ts.length) (h1 : ∀ i t, i < r → ts[i]? = some t → t.bar ≤ k) (h2 : ∀ t, ts[r]? = some t → k < t.bar) : upTo ts k = r := by
  rcases Nat.lt_trichotomy (upTo ts k) r with h | h | h
  · exfalso
    obtain ⟨t, ht⟩ : ∃ t, ts[upTo ts k]? = some t := ⟨_, List.getElem?_eq_getElem (by omega)⟩
    have a := upTo_at ht
    have b := h1 _ t h ht
    omega
  · exact h
  · exfalso
    have hl := upTo_le ts k
    obtain ⟨t, ht⟩ : ∃ t, ts[r]? = some t := ⟨_, List.getElem?_eq_getElem (by omega)⟩
    have a := upTo_lt h ht
    have b := h2 t ht
    omega
/-- the ticks of a bar -/
def tk (ts : List Tp) (k : Int) : Int := tkAt ts (upTo ts k - 1) k
/-- the bars of the tempos are in order, from the one behind a number on, ahead of another -/
def asc (last n : Int) : List Tp → Bool
  | [] => true
  | t :: l => inB t.bar (last + 1) (n - 1) && inB t.ticks (-65536) 65536 && inB t.step (-65536) 65536 && asc t.bar n l
theorem asc_get : ∀ {ts : List Tp} {last n : Int} {i : Nat} {t : Tp}, asc last n ts = true → ts[i]? = some t → last < t.bar ∧ t.bar < n ∧ (-65536 ≤ t.ticks ∧ t.ticks ≤ 65536) ∧ (-65536 ≤ t.step ∧ t.step ≤ 65536)
  | [], _, _, _, _, _, h => by simp at h
  | u :: l, last, n, i, t, ha, h => by
    simp only [asc, Bool.and_eq_true, inB_iff] at ha
    obtain ⟨⟨⟨a1, a2⟩, a3⟩, a4⟩ := ha
    cases i with
    | zero => simp at h; subst h; exact ⟨by omega, by omega, a2, a3⟩
    | succ i =>
      have := asc_get (ts := l) (i := i) a4 (by simpa using h)
      exact ⟨by omega, this.2⟩
theorem asc_lt : ∀ {ts : List Tp} {last n : Int} {i j : Nat} {t u : Tp}, asc last n ts = true → i < j → ts[i]? = some t → ts[j]? = some u → t.bar < u.bar
  | [], _, _, _, _, _, _, _, _, h, _ => by simp at h
  | v :: l, last, n, i, j, t, u, ha, hij, h1, h2 => by
    simp only [asc, Bool.and_eq_true] at ha
    obtain ⟨_, a4⟩ := ha
    cases j with
    | zero => omega
    | succ j =>
      cases i with
      | zero => simp at h1; subst h1; exact (asc_get (i := j) a4 (by simpa using h2)).1
      | succ i => exact asc_lt (ts := l) (i := i) (j := j) a4 (by omega) (by simpa using h1) (by simpa using h2)
/-- the place of a bar's tempo -/
theorem upTo_of {ts : List Tp} {last n k : Int} {i : Nat} {t : Tp} (ha : asc last n ts = true) (ht : ts[i]? = some t) (h1 : t.bar ≤ k) (h2 : ∀ u, ts[i + 1]? = some u → k < u.bar) : upTo ts k = i + 1 := by
  have hl : i < ts.length := (List.getElem?_eq_some_iff.1 ht).1
  refine upTo_uniq (by omega) (fun j u hj hu => ?_) h2
  by_cases hji : j = i
  · subst hji; rw [ht] at hu; cases hu; exact h1
  · have := asc_lt ha (by omega : j < i) hu ht
    omega
/-- what lies between the ends of a line -/
theorem line {a s x e lo hi : Int} (hx : 0 ≤ x) (hxe : x ≤ e) (h1 : lo ≤ a ∧ a ≤ hi) (h2 : lo ≤ a + e * s ∧ a + e * s ≤ hi) : lo ≤ a + x * s ∧ a + x * s ≤ hi := by
  rcases Int.lt_or_le s 0 with h | h
  · have e1 := Int.mul_le_mul_of_nonpos_right hxe (by omega : s ≤ 0)
    have e2 := Int.mul_le_mul_of_nonpos_right hx (by omega : s ≤ 0)
    rw [Int.zero_mul] at e2
    omega
  · have e1 := Int.mul_le_mul_of_nonneg_right hxe h
    have e2 := Int.mul_le_mul_of_nonneg_right hx h
    rw [Int.zero_mul] at e2
    omega
/-- the bar of a tempo's end -/
def lastOf (ts : List Tp) (n : Int) (i : Nat) : Int := if i + 1 < ts.length then (ts.getD (i + 1) default).bar - 1 else n - 1
/-- each bar, and each tempo's ends -/
def okBars (ts : List Tp) (n : Int) : Bool := (List.range n.toNat).all fun k => inB (tk ts k) 1 65536
def okEnds (ts : List Tp) (n : Int) : Bool := (List.range ts.length).all fun i => inB (tk ts (ts.getD i default).bar) 1 65536 && inB (tk ts (lastOf ts n i)) 1 65536
theorem okBars_iff {ts : List Tp} {n : Int} : okBars ts n = true ↔ ∀ k : Int, 0 ≤ k → k < n → 1 ≤ tk ts k ∧ tk ts k ≤ 65536 := by
  simp only [okBars, List.all_eq_true, List.mem_range, inB_iff]
  constructor
  · intro h k h0 h1
    have := h k.toNat (by omega)
    rwa [Int.toNat_of_nonneg h0] at this
  · intro h k hk
    exact h k (by omega) (by omega)
theorem getD_of {α : Type} [Inhabited α] {l : List α} {i : Nat} {x : α} (h : l[i]? = some x) : l.getD i default = x := by rw [List.getD_eq_getElem?_getD, h]; rfl
theorem tk_of {ts : List Tp} {last n k : Int} {i : Nat} {t : Tp} (ha : asc last n ts = true) (ht : ts[i]? = some t) (h1 : t.bar ≤ k) (h2 : ∀ u, ts[i + 1]? = some u → k < u.bar) : tk ts k = t.ticks + (k - t.bar) * t.step := by
  unfold tk tkAt
  rw [upTo_of ha ht h1 h2, Nat.add_sub_cancel, getD_of ht]
theorem lastOf_lt {ts : List Tp} {last n : Int} {i : Nat} {t : Tp} (ha : asc last n ts = true) (ht : ts[i]? = some t) : t.bar ≤ lastOf ts n i ∧ lastOf ts n i < n ∧ ∀ u, ts[i + 1]? = some u → lastOf ts n i < u.bar := by
  have h0 := asc_get ha ht
  unfold lastOf
  split
  · rename_i h
    obtain ⟨u, hu⟩ : ∃ u, ts[i + 1]? = some u := ⟨_, List.getElem?_eq_getElem h⟩
    have h1 := asc_lt ha (by omega : i < i + 1) ht hu
    have h2 := asc_get ha hu
    rw [getD_of hu]
    refine ⟨by omega, by omega, fun v hv => ?_⟩
    rw [hu] at hv; cases hv; omega
  · rename_i h
    refine ⟨by omega, by omega, fun v hv => ?_⟩
    have := (List.getElem?_eq_some_iff.1 hv).1
    omega
/-- the place of a bar's tempo, by the bar -/
theorem at_bar {ts : List Tp} {n k : Int} {t0 : Tp} (h0 : ts[0]? = some t0) (hz : t0.bar = 0) (hk : 0 ≤ k) : ∃ i t, upTo ts k = i + 1 ∧ ts[i]? = some t ∧ t.bar ≤ k ∧ ∀ u, ts[i + 1]? = some u → k < u.bar := by
  have h1 : 0 < upTo ts k := by
    rcases Nat.eq_zero_or_pos (upTo ts k) with h | h
    · exfalso
      have := upTo_at (k := k) (ts := ts) (t := t0) (by rw [h]; exact h0)
      omega
    · exact h
  have hl := upTo_le ts k
  obtain ⟨i, hi⟩ : ∃ i, upTo ts k = i + 1 := ⟨upTo ts k - 1, by omega⟩
  obtain ⟨t, ht⟩ : ∃ t, ts[i]? = some t := ⟨_, List.getElem?_eq_getElem (by omega)⟩
  exact ⟨i, t, hi, ht, upTo_lt (by omega) ht, fun u hu => upTo_at (by rw [hi]; exact hu)⟩
theorem ok_ends {ts : List Tp} {n : Int} {t0 : Tp} (ha : asc (-1) n ts = true) (h0 : ts[0]? = some t0) (hz : t0.bar = 0) : okEnds ts n = okBars ts n := by
  rw [Bool.eq_iff_iff, okBars_iff]
  simp only [okEnds, List.all_eq_true, List.mem_range, Bool.and_eq_true, inB_iff]
  constructor
  · intro h k hk hn
    obtain ⟨i, t, hi, ht, h1, h2⟩ := at_bar (n := n) h0 hz hk
    have hl := (List.getElem?_eq_some_iff.1 ht).1
    obtain ⟨a1, a2⟩ := h i hl
    obtain ⟨b1, b2, b3⟩ := lastOf_lt ha ht
    rw [getD_of ht, tk_of ha ht (Int.le_refl _) (fun u hu => asc_lt ha (by omega : i < i + 1) ht hu)] at a1
    rw [tk_of ha ht b1 b3] at a2
    rw [tk_of ha ht h1 h2]
    have hkl : k ≤ lastOf ts n i := by
      unfold lastOf
      split
      · rename_i h
        obtain ⟨u, hu⟩ : ∃ u, ts[i + 1]? = some u := ⟨_, List.getElem?_eq_getElem h⟩
        have := h2 u hu
        rw [getD_of hu]; omega
      · omega
    exact line (by omega) (by omega) (by rw [Int.sub_self, Int.zero_mul] at a1; omega) a2
  · intro h i hi
    obtain ⟨t, ht⟩ : ∃ t, ts[i]? = some t := ⟨_, List.getElem?_eq_getElem hi⟩
    obtain ⟨b1, b2, b3⟩ := lastOf_lt ha ht
    have h1 := asc_get ha ht
    rw [getD_of ht]
    exact ⟨h _ (by omega) (by omega), h _ (by omega) b2⟩
end Go.Kin.Tm
