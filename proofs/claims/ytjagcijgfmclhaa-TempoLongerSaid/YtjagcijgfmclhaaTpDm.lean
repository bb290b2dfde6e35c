/- Clocks: what a clock's check needs of plain laws; need, with its test open. -/
import Derived.Test.YtjagcijgfmclhaaTpC
set_option linter.unusedSectionVars false
set_option linter.unusedVariables false
set_option linter.unusedSimpArgs false
namespace Go.Proofs
open Go.RowKit Go.Kin Go.Kin.Tm
namespace R13
def valE (k : Int) : Ending := if k = 0 then .returned (.tuple ⟨[]⟩) else .panicked (pan k)
theorem need_no2 {b : Bool} (h : b = false) (k : Int) (w : World) : Calls Try.prog 50 ⟨[.bool b, .int .i64 k]⟩ w fun e w' => e = .panicked (pan k) ∧ Below w.heap.size w w' := by subst h; exact need_no k w
theorem need_ok2 {b : Bool} (h : b = true) (k : Int) (w : World) : Calls Try.prog 50 ⟨[.bool b, .int .i64 k]⟩ w fun e w' => e = .returned (.tuple ⟨[]⟩) ∧ Below w.heap.size w w' := by subst h; exact need_ok k w
section
variable {n : Int} {ts : List Tp} {ps : List Ps} {ss : List Sp}
theorem chk_lim (h : ¬ (ts.length ≤ 4096 ∧ ps.length ≤ 4096 ∧ ss.length ≤ 256)) : chk n ts ps ss = 2 := by
  unfold chk limB; rw [decide_eq_false h]; rfl
theorem chk_no (h : ts.length ≤ 4096 ∧ ps.length ≤ 4096 ∧ ss.length ≤ 256) (h2 : okClk n ts ps ss = false) : chk n ts ps ss = 130 := by
  unfold chk limB; rw [decide_eq_true h, h2]; rfl
theorem no_n (h : ¬ (1 ≤ n ∧ n ≤ 4096)) : okClk n ts ps ss = false := by
  have : inB n 1 4096 = false := decide_eq_false h
  simp [okClk, this]
theorem no_head (h : head0 ts = false) : okClk n ts ps ss = false := by simp [okClk, h]
theorem no_asc (h : asc (-1) n ts = false) : okClk n ts ps ss = false := by simp [okClk, h]
theorem no_bars (h : okBars ts n = false) : okClk n ts ps ss = false := by simp [okClk, h]
theorem no_ascP (h : ascP (-1) n ps = false) : okClk n ts ps ss = false := by simp [okClk, h]
theorem no_sp (h : ss.all (okSp n) = false) : okClk n ts ps ss = false := by
  unfold okClk; rw [h, Bool.and_false]
theorem chk_yes (h : ts.length ≤ 4096 ∧ ps.length ≤ 4096 ∧ ss.length ≤ 256) (h1 : 1 ≤ n ∧ n ≤ 4096) (h2 : head0 ts = true) (h3 : asc (-1) n ts = true) (h4 : okBars ts n = true) (h5 : ascP (-1) n ps = true) (h6 : ss.all (okSp n) = true) : chk n ts ps ss = 0 := by
  have : inB n 1 4096 = true := decide_eq_true h1
  unfold chk limB okClk; rw [decide_eq_true h, this, h2, h3, h4, h5, h6]; rfl
theorem asc_yes {last : Int} {t : Tp} {l : List Tp} (h1 : last + 1 ≤ t.bar ∧ t.bar ≤ n - 1) (h2 : -65536 ≤ t.ticks ∧ t.ticks ≤ 65536) (h3 : -65536 ≤ t.step ∧ t.step ≤ 65536) : asc last n (t :: l) = asc t.bar n l := by
  have e1 : inB t.bar (last + 1) (n - 1) = true := decide_eq_true h1
  have e2 : inB t.ticks (-65536) 65536 = true := decide_eq_true h2
  have e3 : inB t.step (-65536) 65536 = true := decide_eq_true h3
  simp [asc, e1, e2, e3]
theorem asc_no {last : Int} {t : Tp} {l : List Tp} (h : ¬ ((last + 1 ≤ t.bar ∧ t.bar ≤ n - 1) ∧ (-65536 ≤ t.ticks ∧ t.ticks ≤ 65536) ∧ (-65536 ≤ t.step ∧ t.step ≤ 65536))) : asc last n (t :: l) = false := by
  rw [Bool.eq_false_iff]
  intro hh
  simp only [asc, Bool.and_eq_true, inB_iff] at hh
  exact h ⟨hh.1.1.1, hh.1.1.2, hh.1.2⟩
theorem ascP_yes {last : Int} {p : Ps} {l : List Ps} (h1 : last + 1 ≤ p.bar ∧ p.bar ≤ n - 2) (h2 : 1 ≤ p.kind ∧ p.kind ≤ 2) (h3 : 0 ≤ p.lo ∧ p.lo ≤ p.hi) (h4 : p.hi ≤ 1048576) : ascP last n (p :: l) = ascP p.bar n l := by
  have e1 : inB p.bar (last + 1) (n - 2) = true := decide_eq_true h1
  have e2 : inB p.kind 1 2 = true := decide_eq_true h2
  have e3 : inB p.lo 0 p.hi = true := decide_eq_true h3
  simp [ascP, e1, e2, e3, h4]
theorem ascP_no {last : Int} {p : Ps} {l : List Ps} (h : ¬ ((last + 1 ≤ p.bar ∧ p.bar ≤ n - 2) ∧ (1 ≤ p.kind ∧ p.kind ≤ 2) ∧ (0 ≤ p.lo ∧ p.lo ≤ p.hi) ∧ p.hi ≤ 1048576)) : ascP last n (p :: l) = false := by
  rw [Bool.eq_false_iff]
  intro hh
  simp only [ascP, Bool.and_eq_true, inB_iff, decide_eq_true_eq] at hh
  exact h ⟨hh.1.1.1.1, hh.1.1.1.2, hh.1.1.2, hh.1.2⟩
theorem okSp_iff {s : Sp} : okSp n s = true ↔ (0 ≤ s.f ∧ s.f ≤ n) ∧ (0 ≤ s.t ∧ s.t ≤ n) ∧ s.f ≠ s.t ∧ (-1099511627776 ≤ s.lo ∧ s.lo ≤ s.hi) ∧ s.hi ≤ 1099511627776 := by
  simp only [okSp, Bool.and_eq_true, inB_iff, decide_eq_true_eq, and_assoc]
theorem drop_cons {α : Type} {l : List α} {k : Nat} {x : α} (h : l[k]? = some x) : l.drop k = x :: l.drop (k + 1) := by
  obtain ⟨h1, h2⟩ := List.getElem?_eq_some_iff.1 h
  rw [← h2, List.drop_eq_getElem_cons h1]
end

end R13
end Go.Proofs
