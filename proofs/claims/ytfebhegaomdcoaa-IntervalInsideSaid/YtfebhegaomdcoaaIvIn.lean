/- Intervals: inclusion is kept by each operation. -/
import Derived.Test.YtfebhegaomdcoaaIvV
import Derived.Test.YtfebhegaomdcoaaIvW
set_option linter.unusedSectionVars false
set_option linter.unusedVariables false
set_option linter.unusedSimpArgs false
namespace Go.Proofs
open Go.RowKit Go.Kin Go.Kin.Iv
namespace R21

theorem le_of {a b : Int} (h : vB a b = true) : a ≤ b := (vB_iff.1 h).2.1
/-- a result, and the result for wider intervals -/
def Inc (l h e l' h' e' : Int) : Prop := e' = 0 → e = 0 ∧ vB l h = true ∧ vB l' h' = true ∧ l' ≤ l ∧ h ≤ h'
def Pair (u v : Value) : Prop := ∃ l h e l' h' e', u = tup l h e ∧ v = tup l' h' e' ∧ Inc l h e l' h' e'
theorem bad_pair {u : Value} {l h e : Int} (hu : u = tup l h e) {l' h' e' : Int} (he : e' ≠ 0) : Pair u (tup l' h' e') := ⟨_, _, _, _, _, _, hu, rfl, fun h => absurd h he⟩
theorem rs_pair {l h l' h' : Int} (h1 : l ≤ h) (h2 : l' ≤ l) (h3 : h ≤ h') : Pair (rsV l h) (rsV l' h') := by
  cases hw : vB l' h' with
  | true =>
    have hn : vB l h = true := by
      obtain ⟨a1, a2, a3⟩ := vB_iff.1 hw
      exact vB_iff.2 ⟨by omega, h1, by omega⟩
    exact ⟨_, _, _, _, _, _, rs_yes hn, rs_yes hw, fun _ => ⟨rfl, hn, hw, h2, h3⟩⟩
  | false =>
    obtain ⟨_, _, _, q, _⟩ := ok_sp true l h
    exact ⟨_, _, _, _, _, _, q, rs_no hw, fun h => absurd h (by decide)⟩
section
variable {a b c d e f g h : Int} (v1 : vB a b = true) (v2 : vB c d = true) (w1 : vB e f = true) (w2 : vB g h = true) (i1 : e ≤ a) (i2 : b ≤ f) (i3 : g ≤ c) (i4 : d ≤ h)
include v1 v2 w1 w2 i1 i2 i3 i4
theorem ad_pair : Pair (okV (vB a b && vB c d) (a + c) (b + d)) (okV (vB e f && vB g h) (e + g) (f + h)) := by
  rw [v1, v2, w1, w2]
  exact rs_pair (by have := le_of v1; have := le_of v2; omega) (by omega) (by omega)
theorem su_pair : Pair (okV (vB a b && vB c d) (a - d) (b - c)) (okV (vB e f && vB g h) (e - h) (f - g)) := by
  rw [v1, v2, w1, w2]
  exact rs_pair (by have := le_of v1; have := le_of v2; omega) (by omega) (by omega)
theorem muK_mono (hk : muK e f g h = true) : muK a b c d = true := by
  have l1 := le_of v1
  have l2 := le_of v2
  obtain ⟨n1, n2, n3⟩ := vB_iff.1 (mu_vB hk)
  have p1 := mu_in (a := e) (b := f) (c := g) (d := h) (x := a) (y := c) (by omega) (by omega) (by omega) (by omega)
  have p2 := mu_in (a := e) (b := f) (c := g) (d := h) (x := a) (y := d) (by omega) (by omega) (by omega) (by omega)
  have p3 := mu_in (a := e) (b := f) (c := g) (d := h) (x := b) (y := c) (by omega) (by omega) (by omega) (by omega)
  have p4 := mu_in (a := e) (b := f) (c := g) (d := h) (x := b) (y := d) (by omega) (by omega) (by omega) (by omega)
  exact muK_iff.2 ⟨by omega, by omega, by omega, by omega⟩
theorem mu_pair : Pair (muV a b c d) (muV e f g h) := by
  obtain ⟨_, _, _, q, _⟩ := mu_sp a b c d
  cases hk : muK e f g h with
  | true =>
    have hn := muK_mono v1 v2 w1 w2 i1 i2 i3 i4 hk
    exact ⟨_, _, _, _, _, _, mu_yes (by rw [v1, v2]; rfl) hn, mu_yes (by rw [w1, w2]; rfl) hk, fun _ => ⟨rfl, mu_vB hn, mu_vB hk, mn_mono (le_of v1) (le_of v2) i1 i2 i3 i4, mx_mono (le_of v1) (le_of v2) i1 i2 i3 i4⟩⟩
  | false =>
    rw [mu_no (by rw [w1, w2]; rfl) hk]
    exact bad_pair q (by decide)
theorem hu_pair : Pair (huV a b c d) (huV e f g h) := by
  obtain ⟨a1, a2, a3⟩ := vB_iff.1 v1
  obtain ⟨b1, b2, b3⟩ := vB_iff.1 v2
  obtain ⟨c1, c2, c3⟩ := vB_iff.1 w1
  obtain ⟨d1, d2, d3⟩ := vB_iff.1 w2
  exact ⟨_, _, _, _, _, _, hu_yes (by rw [v1, v2]; rfl), hu_yes (by rw [w1, w2]; rfl), fun _ => ⟨rfl, vB_iff.2 ⟨by omega, by omega, by omega⟩, vB_iff.2 ⟨by omega, by omega, by omega⟩, by omega, by omega⟩⟩
end
section
variable {a b e f : Int} (v1 : vB a b = true) (w1 : vB e f = true) (i1 : e ≤ a) (i2 : b ≤ f)
include v1 w1 i1 i2
theorem sq_pair : Pair (sqV a b) (sqV e f) := by
  have l1 := le_of v1
  cases hk : muK e f e f with
  | true =>
    have hn := muK_mono v1 v1 w1 w1 i1 i2 i1 i2 hk
    have B1 : muB a b a b = true := by unfold muB; rw [v1, hn]; rfl
    have B2 : muB e f e f = true := by unfold muB; rw [w1, hk]; rfl
    have m1 : muH a b a b = mxP a b a b := by unfold muH; rw [B1]; rfl
    have m2 : muH e f e f = mxP e f e f := by unfold muH; rw [B2]; rfl
    obtain ⟨s1, s2, s3, s4, s5, s6⟩ := sq_ends v1 hn (Int.le_refl a) l1
    obtain ⟨t1, t2, t3, t4, t5, t6⟩ := sq_ends w1 hk (Int.le_refl e) (le_of w1)
    have h0 : leastV e f * leastV e f ≤ leastV a b * leastV a b := by
      have x1 : leastV e f ≤ leastV a b := by unfold leastV; omega
      have x2 : 0 ≤ leastV e f := by unfold leastV; omega
      exact Int.mul_le_mul x1 x1 x2 (by omega)
    have h1 := mx_mono (a := a) (b := b) (c := a) (d := b) l1 l1 i1 i2 i1 i2
    refine ⟨_, _, _, _, _, _, sq_yes B1, sq_yes B2, fun _ => ⟨rfl, ?_, ?_, h0, by rw [m1, m2]; exact h1⟩⟩
    · rw [m1]; exact vB_iff.2 ⟨by omega, by omega, by omega⟩
    · rw [m2]; exact vB_iff.2 ⟨by omega, by omega, by omega⟩
  | false =>
    have B2 : muB e f e f = false := by unfold muB; rw [w1, hk]; rfl
    rw [sq_not B2, mu_no (by rw [w1]; rfl) hk]
    exact bad_pair (l := sqL a b) (h := muH a b a b) (e := muE a b a b) rfl (by decide)
theorem ro_pair : Pair (roV a b) (roV e f) := by
  obtain ⟨a1, a2, a3⟩ := vB_iff.1 v1
  obtain ⟨c1, c2, c3⟩ := vB_iff.1 w1
  by_cases he : e < 0
  · rw [ro_neg w1 he]
    exact bad_pair (l := roL a b) (h := roH a b) (e := roE a b) rfl (by decide)
  · have ha : ¬ a < 0 := by omega
    obtain ⟨u1, u2, u3, u4, u5⟩ := up_is (b := b) (by omega) a3
    obtain ⟨x1, x2, x3, x4, x5⟩ := up_is (b := f) (by omega) c3
    have r1 := rt_mono (m := e) (n := a) (by omega) i1
    have r2 := rt_mono (m := a) (n := b) (by omega) a2
    have r3 := rt_mono (m := e) (n := f) (by omega) c2
    have r4 := (rt_is (n := e) (by omega)).1
    have hup : upR b ≤ upR f := by
      rcases Int.lt_or_le (upR f) (upR b) with hl | hl
      · exfalso
        have y1 : upR f * upR f ≤ (upR b - 1) * (upR b - 1) := Int.mul_le_mul (by omega) (by omega) (by omega) (by omega)
        omega
      · exact hl
    exact ⟨_, _, _, _, _, _, ro_yes v1 ha, ro_yes w1 he, fun _ => ⟨rfl, vB_iff.2 ⟨by omega, by omega, by omega⟩, vB_iff.2 ⟨by omega, by omega, by omega⟩, r1, hup⟩⟩
theorem sc_pair (N D : Int) : Pair (scV a b N D) (scV e f N D) := by
  cases h2 : R12.okB N D with
  | true =>
    obtain ⟨k1, _, _, _, _⟩ := R12.okB_iff.1 h2
    have hD : 0 < D := by omega
    rw [sc_ok v1 h2, sc_ok w1 h2]
    have l1 := le_of v1
    have s1 := seg (a := e) (b := f) (x := a) N i1 (by omega)
    have s2 := seg (a := e) (b := f) (x := b) N (by omega) i2
    have g1 := fl_le_ce a N hD
    have key : ∀ x, (e ≤ x ∧ x ≤ f) → scLo e f N D ≤ fl x N D ∧ ce x N D ≤ scHi e f N D := fun x hx => by
      have s := seg (a := e) (b := f) (x := x) N hx.1 hx.2
      unfold scLo scHi
      rcases Int.le_total (e * N) (f * N) with ht | ht
      · have y1 := fl_mono (x := e) (y := x) (N := N) (M := N) hD (by omega)
        have y2 := ce_mono (x := x) (y := f) (N := N) (M := N) hD (by omega)
        omega
      · have y1 := fl_mono (x := f) (y := x) (N := N) (M := N) hD (by omega)
        have y2 := ce_mono (x := x) (y := e) (N := N) (M := N) hD (by omega)
        omega
    obtain ⟨y1, y2⟩ := key a ⟨i1, by omega⟩
    obtain ⟨y3, y4⟩ := key b ⟨by omega, i2⟩
    refine rs_pair ?_ ?_ ?_
    · unfold scLo scHi; omega
    · show scLo e f N D ≤ min (fl a N D) (fl b N D); omega
    · show max (ce a N D) (ce b N D) ≤ scHi e f N D; omega
  | false =>
    rw [sc_rat w1 h2, sc_rat v1 h2]
    exact bad_pair (l := 0) (h := 0) (e := 120) rfl (by decide)
end
end R21
end Go.Proofs
