/- Intervals: what the results are, in a form that serves the laws. -/
import Derived.Test.YtfebhegaomdcoaaIvS
import Derived.Test.YtfebhegaomdcoaaEng17
import Derived.Test.YtfebhegaomdcoaaLwMath
set_option linter.unusedSectionVars false
set_option linter.unusedVariables false
set_option linter.unusedSimpArgs false
namespace Go.Proofs
open Go.RowKit Go.Kin Go.Kin.Iv
namespace R21

theorem ck_yes {a b : Int} (h : vB a b = true) : ckE a b = 0 := by unfold ckE; rw [h]; rfl
theorem ck_no {a b : Int} (h : vB a b = false) : ckE a b = 210 := by unfold ckE; rw [h]; rfl
theorem rs_or (lo hi : Int) (hle : lo ≤ hi) : (rsE lo hi = 0 ∧ rsL lo hi = lo ∧ rsH lo hi = hi) ∨ (rsE lo hi = 2 ∧ (lo < -1099511627776 ∨ (-1099511627776 ≤ lo ∧ 1099511627776 < hi))) := by
  cases h : vB lo hi with
  | true => left; unfold rsE rsL rsH; rw [h]; exact ⟨rfl, rfl, rfl⟩
  | false => right; have := vB_no.1 h; exact ⟨by unfold rsE; rw [h]; rfl, by omega⟩
theorem mu_or (a b c d : Int) (h1 : vB a b = true) (h2 : vB c d = true) : (muE a b c d = 0 ∧ muK a b c d = true ∧ muL a b c d = mnP a b c d ∧ muH a b c d = mxP a b c d) ∨ (muE a b c d = 2 ∧ muK a b c d = false) := by
  cases h : muK a b c d with
  | true => left; unfold muE muL muH muB mnP mxP; rw [h1, h2, h]; exact ⟨rfl, rfl, rfl, rfl⟩
  | false => right; unfold muE; rw [h1, h2, h]; exact ⟨rfl, rfl⟩
theorem fits_and (a b c d : Int) : muK a b c d = (fitB (a * c) && (fitB (a * d) && (fitB (b * c) && fitB (b * d)))) := by simp [muK, prods]
theorem any4 {n p q r s : Int} (h : n = p ∨ n = q ∨ n = r ∨ n = s) : ([p, q, r, s].any fun x => decide (x = n)) = true := by
  simp only [List.any_cons, List.any_nil, Bool.or_false, Bool.or_eq_true, decide_eq_true_eq]
  omega
def tup (l h e : Int) : Value := .tuple ⟨[.agg ⟨rgE l h⟩, .int .i64 e]⟩
theorem tup_inj {l h e l' h' e' : Int} (q : tup l h e = tup l' h' e') : l = l' ∧ h = h' ∧ e = e' := by
  simp only [tup, rgE, Value.tuple.injEq, Array.mk.injEq, List.cons.injEq, Value.agg.injEq, Value.int.injEq, true_and, and_true] at q
  exact ⟨q.1.1, q.1.2, q.2⟩
theorem ok_sp (v : Bool) (lo hi : Int) : ∃ l h e, okV v lo hi = tup l h e ∧ Hid ((e = 0 ∧ v = true ∧ l = lo ∧ h = hi ∧ vB l h = true) ∨ (e ≠ 0 ∧ l = 0 ∧ h = 0)) := by
  cases v with
  | false => exact ⟨0, 0, 210, rfl, Lib.hid (.inr ⟨by decide, rfl, rfl⟩)⟩
  | true =>
    cases h : vB lo hi with
    | true => exact ⟨lo, hi, 0, rs_yes h, Lib.hid (.inl ⟨rfl, rfl, rfl, rfl, h⟩)⟩
    | false => exact ⟨0, 0, 2, rs_no h, Lib.hid (.inr ⟨by decide, rfl, rfl⟩)⟩
theorem ad_sp (a b c d : Int) : ∃ l h e, okV (vB a b && vB c d) (a + c) (b + d) = tup l h e ∧ Hid ((e = 0 ∧ (vB a b = true ∧ vB c d = true) ∧ l = a + c ∧ h = b + d ∧ vB l h = true) ∨ (e ≠ 0 ∧ l = 0 ∧ h = 0)) := by
  obtain ⟨l, h, e, q, s⟩ := ok_sp (vB a b && vB c d) (a + c) (b + d)
  exact ⟨l, h, e, q, Lib.hid (s.out.imp (fun ⟨s1, s2, s3⟩ => ⟨s1, both s2, s3⟩) id)⟩
theorem su_sp (a b c d : Int) : ∃ l h e, okV (vB a b && vB c d) (a - d) (b - c) = tup l h e ∧ Hid ((e = 0 ∧ (vB a b = true ∧ vB c d = true) ∧ l = a - d ∧ h = b - c ∧ vB l h = true) ∨ (e ≠ 0 ∧ l = 0 ∧ h = 0)) := by
  obtain ⟨l, h, e, q, s⟩ := ok_sp (vB a b && vB c d) (a - d) (b - c)
  exact ⟨l, h, e, q, Lib.hid (s.out.imp (fun ⟨s1, s2, s3⟩ => ⟨s1, both s2, s3⟩) id)⟩
theorem mu_vB {a b c d : Int} (h : muK a b c d = true) : vB (mnP a b c d) (mxP a b c d) = true := by
  obtain ⟨n1, n2, n3, n4⟩ := muK_iff.1 h
  refine vB_iff.2 ⟨?_, mn_le_mx a b c d, ?_⟩
  · unfold mnP; omega
  · unfold mxP; omega
theorem mu_sp (a b c d : Int) : ∃ l h e, muV a b c d = tup l h e ∧ Hid ((e = 0 ∧ (vB a b = true ∧ vB c d = true) ∧ l = mnP a b c d ∧ h = mxP a b c d ∧ vB l h = true) ∨ (e ≠ 0 ∧ l = 0 ∧ h = 0)) := by
  cases h1 : (vB a b && vB c d) with
  | false => exact ⟨0, 0, 210, mu_bad h1, Lib.hid (.inr ⟨by decide, rfl, rfl⟩)⟩
  | true =>
    cases h2 : muK a b c d with
    | true => exact ⟨mnP a b c d, mxP a b c d, 0, mu_yes h1 h2, Lib.hid (.inl ⟨rfl, both h1, rfl, rfl, mu_vB h2⟩)⟩
    | false => exact ⟨0, 0, 2, mu_no h1 h2, Lib.hid (.inr ⟨by decide, rfl, rfl⟩)⟩
theorem ad_comm (a b c d : Int) : okV (vB c d && vB a b) (c + a) (d + b) = okV (vB a b && vB c d) (a + c) (b + d) := by rw [Bool.and_comm, Int.add_comm c a, Int.add_comm d b]
theorem mu_comm (a b c d : Int) : muV c d a b = muV a b c d := by
  have hk : muK c d a b = muK a b c d := by
    simp only [muK, prods, List.all_cons, List.all_nil, Bool.and_true]
    rw [Int.mul_comm c a, Int.mul_comm c b, Int.mul_comm d a, Int.mul_comm d b]
    cases fitB (a * c) <;> cases fitB (a * d) <;> cases fitB (b * c) <;> cases fitB (b * d) <;> rfl
  cases h1 : (vB a b && vB c d) with
  | false => rw [mu_bad h1, mu_bad (by rw [Bool.and_comm]; exact h1)]
  | true =>
    cases h2 : muK a b c d with
    | true =>
      rw [mu_yes h1 h2, mu_yes (by rw [Bool.and_comm]; exact h1) (by rw [hk]; exact h2)]
      have e1 := mn_comm a b c d
      have e2 := mx_comm a b c d
      unfold mnP at e1
      unfold mxP at e2
      rw [e1, e2]
    | false => rw [mu_no h1 h2, mu_no (by rw [Bool.and_comm]; exact h1) (by rw [hk]; exact h2)]
theorem in_yes {a b c d : Int} (h1 : vB a b = true) (h2 : vB c d = true) (h3 : c ≤ a) (h4 : b ≤ d) : inV a b c d = .tuple ⟨[.bool true, .int .i64 0]⟩ := by
  rw [in_ok (by rw [h1, h2]; rfl), decide_eq_true (p := c ≤ a ∧ b ≤ d) ⟨h3, h4⟩]
end R21
end Go.Proofs
