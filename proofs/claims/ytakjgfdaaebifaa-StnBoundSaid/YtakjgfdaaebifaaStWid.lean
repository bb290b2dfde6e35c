import Derived.Test.YtakjgfdaaebifaaStNet
set_option linter.unusedSectionVars false
set_option linter.unusedVariables false
set_option linter.unusedSimpArgs false
/-! How far the numbers can go in the loops, and loops as folds over what has come. Plain Lean. -/
namespace Go.Kin.St

def Within (K : Int) (t : Nat → Int) : Prop := ∀ x, -K ≤ t x ∧ t x ≤ K

theorem Within.mono {K M : Int} {t : Nat → Int} (h : Within K t) (hk : K ≤ M) : Within M t := fun x => by have := h x; omega
theorem Within.zero {K : Int} (hK : 0 ≤ K) : Within K (fun _ => 0) := fun _ => by show -K ≤ 0 ∧ 0 ≤ K; omega

theorem Within.upd {K M : Int} {t : Nat → Int} (h : Within K t) (hk : K ≤ M) (i : Nat) {v : Int} (h1 : -M ≤ v) (h2 : v ≤ M) : Within M (upd t i v) := by
  intro x
  have := h x
  simp only [St.upd]
  split <;> omega

theorem raise_within {K W : Int} {t : Nat → Int} {e : Ed} (h : Within K t) (h1 : -W ≤ e.w) (h2 : e.w ≤ W) : Within (K + W) (raise t e) := by
  have ha := h e.a
  have hb := h e.b
  exact h.upd (by omega) _ (by omega) (by omega)

theorem step_within {K W : Int} {s : Sr} {e : Ed} {k now : Nat} (h : Within K s.d) (h1 : -W ≤ e.w) (h2 : e.w ≤ W) : Within (K + W) (s.step e k now).d := by
  have ha := h e.a
  unfold Sr.step
  split
  · exact h.upd (by omega) _ (by omega) (by omega)
  · exact h.mono (by omega)

theorem reach_within {K W : Int} {p : (Nat → Int) × (Nat → Bool)} {e : Ed} (h : Within K p.1) (h1 : -W ≤ e.w) (h2 : e.w ≤ W) : Within (K + W) (reach p e).1 := by
  have ha := h e.a
  unfold reach
  split
  · exact h.upd (by omega) _ (by omega) (by omega)
  · exact h.mono (by omega)

/-- One edge more. -/
theorem fold_take {α β : Type} (f : β → α → β) (b : β) (l : List α) {k : Nat} (hk : k < l.length) :
    (l.take (k + 1)).foldl f b = f ((l.take k).foldl f b) l[k] := by
  rw [List.take_add_one, List.getElem?_eq_getElem hk, List.foldl_append]
  rfl

theorem fold_take_all {α β : Type} (f : β → α → β) (b : β) (l : List α) : (l.take l.length).foldl f b = l.foldl f b := by
  rw [List.take_length]

/-- What has come so far keeps all; with one edge more. -/
theorem sol_take {E : List Ed} {t : Nat → Int} {k : Nat} (h : Sol (E.take k) t) (hk : k < E.length) (he : t E[k].b - t E[k].a ≤ E[k].w) : Sol (E.take (k + 1)) t := by
  intro e hm
  rw [List.take_add_one, List.getElem?_eq_getElem hk] at hm
  rcases List.mem_append.1 hm with h1 | h1
  · exact h e h1
  · simp only [Option.toList_some, List.mem_singleton] at h1
    subst h1; exact he

theorem not_sol {E : List Ed} {t : Nat → Int} {k : Nat} (hk : k < E.length) (he : ¬ t E[k].b - t E[k].a ≤ E[k].w) : ¬ Sol E t :=
  fun h => he (h _ (List.getElem_mem hk))

/-- A later version with a flag: whether a pass changes anything is whether some constraint is broken. -/
def flagged (p : (Nat → Int) × Bool) (e : Ed) : (Nat → Int) × Bool := if p.1 e.a < p.1 e.b - e.w then (upd p.1 e.a (p.1 e.b - e.w), true) else p

theorem flagged_fst (p : (Nat → Int) × Bool) (e : Ed) : (flagged p e).1 = raise p.1 e := by
  unfold flagged
  split
  · unfold raise; rw [Int.max_eq_right (by omega)]
  · funext x; unfold raise St.upd; split
    · rename_i h; subst h; omega
    · rfl

theorem flagged_fold_fst (E : List Ed) (p : (Nat → Int) × Bool) : (E.foldl flagged p).1 = pass E p.1 := by
  induction E generalizing p with
  | nil => rfl
  | cons e E ih => show (E.foldl flagged (flagged p e)).1 = pass E (raise p.1 e); rw [ih, flagged_fst]

theorem flagged_true (E : List Ed) (p : (Nat → Int) × Bool) (h : p.2 = true) : (E.foldl flagged p).2 = true := by
  induction E generalizing p with
  | nil => exact h
  | cons e E ih =>
    refine ih _ ?_
    unfold flagged
    split
    · rfl
    · exact h

theorem flagged_false (E : List Ed) (t : Nat → Int) : (E.foldl flagged (t, false)).2 = false ↔ Sol E t := by
  induction E with
  | nil => simp [Sol]
  | cons e E ih =>
    show (E.foldl flagged (flagged (t, false) e)).2 = false ↔ _
    by_cases hc : t e.a < t e.b - e.w
    · have : flagged (t, false) e = (upd t e.a (t e.b - e.w), true) := by unfold flagged; rw [if_pos hc]
      rw [this, flagged_true _ _ rfl]
      constructor
      · intro h; cases h
      · intro h; have := h e List.mem_cons_self; omega
    · have : flagged (t, false) e = (t, false) := by unfold flagged; rw [if_neg hc]
      rw [this, ih]
      constructor
      · intro h f hf
        rcases List.mem_cons.1 hf with rfl | hf
        · omega
        · exact h f hf
      · intro h f hf; exact h f (List.mem_cons_of_mem _ hf)

end Go.Kin.St
