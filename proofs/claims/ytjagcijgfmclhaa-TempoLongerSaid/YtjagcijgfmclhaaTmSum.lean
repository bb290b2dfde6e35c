/- Clocks: sums of the reference, validity, lengths. Plain Lean. -/
import Derived.Test.YtjagcijgfmclhaaTmLaw
set_option linter.unusedSectionVars false
set_option linter.unusedVariables false
set_option linter.unusedSimpArgs false
namespace Go.Kin.Tm

/-- sums of ticks -/
def St (tk : Int → Int) : Nat → Int
  | 0 => 0
  | k + 1 => St tk k + tk k
/-- the pauses ahead of a bar -/
def sp (len : Nat → Int) : List Ps → Nat → Int → Int
  | [], _, _ => 0
  | p :: l, o, k => (if p.bar < k then len o else 0) + sp len l (o + 1) k
theorem sp_none {len : Nat → Int} : ∀ {ps : List Ps} {o : Nat} {k : Int}, (∀ (j : Nat) (p : Ps), ps[j]? = some p → k ≤ p.bar) → sp len ps o k = 0
  | [], _, _, _ => rfl
  | p :: l, o, k, h => by
    have h0 := h 0 p rfl
    unfold sp
    rw [if_neg (by omega), sp_none fun j q hq => h (j + 1) q (by simpa using hq)]; rfl
theorem sp_succ {len : Nat → Int} {n : Int} : ∀ {ps : List Ps} {last : Int} {o : Nat} {k : Int}, ascP last n ps = true → sp len ps o (k + 1) = sp len ps o k + pa len ps o k
  | [], _, _, _, _ => rfl
  | p :: l, last, o, k, ha => by
    have hl : ascP p.bar n l = true := by
      simp only [ascP, Bool.and_eq_true] at ha; exact ha.2
    unfold sp pa
    by_cases h1 : p.bar = k
    · rw [if_pos (by omega), if_neg (by omega), if_pos h1]
      have e1 : sp len l (o + 1) (k + 1) = 0 := sp_none fun j q hq => by have := (ascP_get hl hq).1; omega
      have e2 : sp len l (o + 1) k = 0 := sp_none fun j q hq => by have := (ascP_get hl hq).1; omega
      rw [e1, e2]; omega
    · rw [if_neg h1, sp_succ (len := len) (n := n) (o := o + 1) (k := k) hl]
      by_cases h2 : p.bar < k
      · rw [if_pos (by omega), if_pos h2]; omega
      · rw [if_neg (by omega), if_neg h2]; omega
theorem Bt_sum {tk : Int → Int} {len : Nat → Int} {ps : List Ps} {n : Int} (ha : ascP (-1) n ps = true) : ∀ k : Nat, Bt tk (pa len ps 0) k = St tk k + sp len ps 0 k
  | 0 => by
    have : sp len ps 0 (0 : Nat) = 0 := sp_none fun j p h => by have := (ascP_get ha h).1; omega
    rw [this]; rfl
  | k + 1 => by
    rw [Bt_succ, Bt_sum ha k]
    have := sp_succ (len := len) (o := 0) (k := (k : Int)) ha
    show _ = St tk k + tk k + sp len ps 0 ((k : Int) + 1)
    rw [this]; omega

/-! ## Validity -/
def okSp (n : Int) (s : Sp) : Bool := inB s.f 0 n && inB s.t 0 n && decide (s.f ≠ s.t) && inB s.lo (-1099511627776) s.hi && decide (s.hi ≤ 1099511627776)
def limB (a b c : Nat) : Bool := decide (a ≤ 4096 ∧ b ≤ 4096 ∧ c ≤ 256)
def head0 (ts : List Tp) : Bool := match ts with
  | [] => false
  | t :: _ => decide (t.bar = 0)
def okClk (n : Int) (ts : List Tp) (ps : List Ps) (ss : List Sp) : Bool := inB n 1 4096 && head0 ts && asc (-1) n ts && okBars ts n && ascP (-1) n ps && ss.all (okSp n)
def chk (n : Int) (ts : List Tp) (ps : List Ps) (ss : List Sp) : Int := if limB ts.length ps.length ss.length then (if okClk n ts ps ss then 0 else 130) else 2
theorem chk_or (n : Int) (ts : List Tp) (ps : List Ps) (ss : List Sp) : chk n ts ps ss = 0 ∨ chk n ts ps ss = 130 ∨ chk n ts ps ss = 2 := by unfold chk; split <;> (try split) <;> simp
/-- a valid clock -/
structure Ok (n : Int) (ts : List Tp) (ps : List Ps) (ss : List Sp) : Prop where
  lim : ts.length ≤ 4096 ∧ ps.length ≤ 4096 ∧ ss.length ≤ 256
  n1 : 1 ≤ n
  n2 : n ≤ 4096
  t0 : ∃ t, ts[0]? = some t ∧ t.bar = 0
  asc : asc (-1) n ts = true
  bars : ∀ k : Int, 0 ≤ k → k < n → 1 ≤ tk ts k ∧ tk ts k ≤ 65536
  ascP : ascP (-1) n ps = true
  sps : ∀ s ∈ ss, okSp n s = true
theorem chk_ok {n : Int} {ts : List Tp} {ps : List Ps} {ss : List Sp} : chk n ts ps ss = 0 ↔ Ok n ts ps ss := by
  unfold chk
  constructor
  · intro h
    split at h
    · rename_i h1
      split at h
      · rename_i h2
        have h1 := of_decide_eq_true h1
        simp only [okClk, Bool.and_eq_true, inB_iff, List.all_eq_true] at h2
        obtain ⟨⟨⟨⟨⟨a1, a2⟩, a3⟩, a4⟩, a5⟩, a6⟩ := h2
        refine ⟨h1, a1.1, a1.2, ?_, a3, okBars_iff.1 a4, a5, a6⟩
        cases ts with
        | nil => cases a2
        | cons t l => exact ⟨t, rfl, of_decide_eq_true a2⟩
      · cases h
    · cases h
  · intro h
    have h1 : limB ts.length ps.length ss.length = true := decide_eq_true h.lim
    have h2 : head0 ts = true := by
      obtain ⟨t, a, b⟩ := h.t0
      cases ts with
      | nil => cases a
      | cons u l => cases a; exact decide_eq_true b
    have h3 : okClk n ts ps ss = true := by
      simp only [okClk, Bool.and_eq_true, inB_iff, List.all_eq_true]
      exact ⟨⟨⟨⟨⟨⟨h.n1, h.n2⟩, h2⟩, h.asc⟩, okBars_iff.2 h.bars⟩, h.ascP⟩, h.sps⟩
    rw [if_pos h1, if_pos h3]

/-! ## Lengths -/
def lensB (ps : List Ps) (l : List Int) : Bool := decide (l.length = ps.length) && (List.range ps.length).all fun i => inB (l.getD i 0) (ps.getD i default).lo (ps.getD i default).hi
theorem lensB_iff {ps : List Ps} {l : List Int} : lensB ps l = true ↔ l.length = ps.length ∧ ∀ (i : Nat) (p : Ps) (x : Int), ps[i]? = some p → l[i]? = some x → p.lo ≤ x ∧ x ≤ p.hi := by
  simp only [lensB, Bool.and_eq_true, decide_eq_true_eq, List.all_eq_true, List.mem_range, inB_iff]
  constructor
  · rintro ⟨h1, h2⟩
    refine ⟨h1, fun i p x hp hx => ?_⟩
    have := h2 i (List.getElem?_eq_some_iff.1 hp).1
    rw [getD_of hp, List.getD_eq_getElem?_getD, hx] at this
    exact this
  · rintro ⟨h1, h2⟩
    refine ⟨h1, fun i hi => ?_⟩
    obtain ⟨p, hp⟩ : ∃ p, ps[i]? = some p := ⟨_, List.getElem?_eq_getElem hi⟩
    obtain ⟨x, hx⟩ : ∃ x, l[i]? = some x := ⟨_, List.getElem?_eq_getElem (by omega)⟩
    rw [getD_of hp, List.getD_eq_getElem?_getD, hx]
    exact h2 i p x hp hx
def lenF (l : List Int) (i : Nat) : Int := l.getD i 0
def loF (ps : List Ps) (i : Nat) : Int := (ps.getD i default).lo
def hiF (ps : List Ps) (i : Nat) : Int := (ps.getD i default).hi
/-- the pause of a bar, if its lengths are within bounds -/
theorem pa_bd {len : Nat → Int} {lo hi : Nat → Int} : ∀ {ps : List Ps} {o : Nat} {k : Int}, (∀ i : Nat, i < ps.length → lo (o + i) ≤ len (o + i) ∧ len (o + i) ≤ hi (o + i)) → pa lo ps o k ≤ pa len ps o k ∧ pa len ps o k ≤ pa hi ps o k
  | [], _, _, _ => ⟨Int.le_refl _, Int.le_refl _⟩
  | p :: l, o, k, h => by
    unfold pa
    by_cases hk : p.bar = k
    · rw [if_pos hk, if_pos hk, if_pos hk]
      exact h 0 (by simp)
    · rw [if_neg hk, if_neg hk, if_neg hk]
      refine pa_bd fun i hi' => ?_
      have := h (i + 1) (by simp; omega)
      rwa [show o + (i + 1) = o + 1 + i by omega] at this
theorem pa_ge {len : Nat → Int} : ∀ {ps : List Ps} {o : Nat} {k : Int}, (∀ i : Nat, i < ps.length → 0 ≤ len (o + i)) → 0 ≤ pa len ps o k
  | [], _, _, _ => Int.le_refl _
  | p :: l, o, k, h => by
    unfold pa
    split
    · exact h 0 (by simp)
    · refine pa_ge fun i hi' => ?_
      have := h (i + 1) (by simp; omega)
      rwa [show o + (i + 1) = o + 1 + i by omega] at this
end Go.Kin.Tm
